/- breakrule.Check without rules; Valid of the program and of the reference. Valid of the reference. The states of a table along a list: plain; rows of ints of the call's own that are written. fits, Left of the program -/
import Derived.Test.YtlmdjggpeiddoaaDoorD3
import Derived.RegionTactic
import Derived.ChangeAlike
import Derived.BigRegion
import Derived.BigQuiet
import Derived.Deep.QuietTactic
namespace Go.Proofs.YtlmdjggpeiddoaaDoor
open Go.RowKit Go.Sort

set_option maxRecDepth 100000 in
theorem newInsp (n : Int) (w : World) :
    Calls Tryd.prog 45 #[.int .i64 n] w fun e w' => e = .returned (.agg #[.int .i64 n, .map (some (w.heap.size + 1))]) ∧ Hid (w'.heap[w.heap.size + 1]? = some (.map #[] 0)) ∧ Below w.heap.size w w' := by
  have hmm := @run_makeMap Tryd.prog
  go_enter Tryd.func45, Tryd.ntmps45
  go_wp2_with fail
  refine bodyPost_ret (v := .agg #[.int .i64 n, .map (some (w.heap.size + 1))]) (by simp [results, Tryd.results45, go_sem]) rfl ⟨rfl, Lib.hid ?_, bUp (bBox _ _) (bBox _ _)⟩
  have := heap_alloc_new (w.alloc (Obj.cells #[Value.int IntKind.i64 n, Value.map (some (w.heap.size + 1))] 72)) (.map #[] 0)
  simpa using this

set_option maxRecDepth 100000 in
theorem chk0 (ps : List (List UInt8)) (A : Option Addr) (cap : Nat) (w : World) (hA : StrsAt w A ps) (hps : ∀ p ∈ ps, p.length ≤ 9223372036854775807) (hl : ps.length ≤ 1000000) :
    Calls Tryd.prog 27 #[.agg #[.slice A ps.length cap, .slice none 0 0]] w fun e w' => e = .returned (.int .i64 (if namesOk ps = true then 0 else 6)) ∧ Below w.heap.size w w' := by
  have HN := Lib.hid (fun w' h => namesValid ps A cap w' h hps hl)
  have HI := Lib.hid (fun w' => newInsp (ps.length : Int) w')
  have HA := Lib.hid hA
  clear hA
  clear hps
  cases hr : namesOk ps with
  | true =>
    rw [hr] at HN
    go_enter Tryd.func27, Tryd.ntmps27
    go_wp2_with fail
    refine (HN.out _ (HA.out.keep (bBox _ _))).mono ?_
    rintro e w2 ⟨rfl, hb2⟩
    have k0 : w2.cell? ⟨w.heap.size, 0, none⟩ = some (.slice A ps.length cap) := cell_keep hb2 (cell_box _ _ _ 0)
    have k1 : w2.cell? ⟨w.heap.size, 1, none⟩ = some (.slice none 0 0) := cell_keep hb2 (cell_box _ _ _ 1)
    have hb3 := bUp (bBox w _) hb2
    have hlt : w.heap.size < w2.heap.size := block_lt_of_cell k0
    clear hb2
    go_wp2_with fail
    refine (HI.out _).mono ?_
    rintro e w4 ⟨rfl, _, hb4⟩
    have m0 := cell_keep hb4 k0
    have m1 := cell_keep hb4 k1
    have hlt4 : w.heap.size < w4.heap.size := block_lt_of_cell m0
    clear k0 k1 hlt
    go_wp2_with fail
    go_loop [20, 4] (fun i q => i = .int .i64 0 ∧ q = .int .i64 0) (fun _ _ => 0)
    case atStart => exact ⟨rfl, rfl⟩
    case round =>
      obtain ⟨rfl, rfl⟩ := hrel
      go_wp2_with fail
      go_ret
      exact ⟨rfl, bUp hb3 (bUp hb4 (bBox _ _))⟩
  | false =>
    rw [hr] at HN
    go_enter Tryd.func27, Tryd.ntmps27
    go_wp2_with fail
    refine (HN.out _ (HA.out.keep (bBox _ _))).mono ?_
    rintro e w2 ⟨rfl, hb2⟩
    go_wp2_with fail
    go_ret
    exact ⟨rfl, bUp (bBox w _) hb2⟩

/-- where a table's slices lie -/
structure TabV where
  a0 : Option Addr
  a1 : Option Addr
  a2 : Option Addr
  a3 : Option Addr
  a4 : Option Addr
  a5 : Option Addr
  c0 : Nat
  c1 : Nat
  c2 : Nat
  c3 : Nat
  c4 : Nat
  c5 : Nat
def tabCells (t : TabD) (v : TabV) : Array Value := #[.slice v.a0 t.classes.length v.c0, .slice v.a1 t.actions.length v.c1, .slice v.a2 t.left.next.length v.c2, .slice v.a3 t.left.marks.length v.c3, .slice v.a4 t.right.next.length v.c4, .slice v.a5 t.right.marks.length v.c5]
/-- no more than a million of anything -/
structure TabFew (t : TabD) : Prop where
  names : ∀ p ∈ t.classes, p.length ≤ 9223372036854775807
  nc : t.classes.length ≤ 1000000
  na : t.actions.length ≤ 1000000
  nl : t.left.next.length ≤ 1000000
  ml : t.left.marks.length ≤ 1000000
  nr : t.right.next.length ≤ 1000000
  mr : t.right.marks.length ≤ 1000000
  rnl : ∀ r ∈ t.left.next, r.length ≤ 1000000
  rml : ∀ r ∈ t.left.marks, r.length ≤ 1000000
  rnr : ∀ r ∈ t.right.next, r.length ≤ 1000000
  rmr : ∀ r ∈ t.right.marks, r.length ≤ 1000000
structure TabAt (w : World) (t : TabD) (v : TabV) : Prop where
  classes : StrsAt w v.a0 t.classes
  actions : IntsAt w v.a1 t.actions
  ln : RowsAt w v.a2 t.left.next
  lm : RowsAt w v.a3 t.left.marks
  rn : RowsAt w v.a4 t.right.next
  rm : RowsAt w v.a5 t.right.marks
theorem TabAt.keep {w w' : World} {t : TabD} {v : TabV} (h : TabAt w t v) (hb : Below w.heap.size w w') : TabAt w' t v :=
  ⟨h.classes.keep hb, h.actions.keep hb, h.ln.keep hb, h.lm.keep hb, h.rn.keep hb, h.rm.keep hb⟩
def actOk (x : Int) : Bool := decide (1 ≤ x) && decide (x ≤ 3)
/-- the table is valid -/
def validB (t : TabD) : Bool := namesOk t.classes && decide (t.actions.length ≤ 100) && t.actions.all actOk && (soundB t.left t.classes.length t.actions.length && soundB t.right t.classes.length t.actions.length)

set_option maxHeartbeats 4000000 in
set_option maxRecDepth 100000 in
theorem valid (t : TabD) (v : TabV) (w : World) (hT : TabAt w t v) (hF : TabFew t) :
    Calls Tryd.prog 10 #[.agg (tabCells t v)] w fun e w' => e = .returned (.bool (validB t)) ∧ Below w.heap.size w w' := by
  have HV := Lib.hid (show validB t = (namesOk t.classes && decide (t.actions.length ≤ 100) && t.actions.all actOk && (soundB t.left t.classes.length t.actions.length && soundB t.right t.classes.length t.actions.length)) from rfl)
  have HC := Lib.hid (fun w' h => chk0 t.classes v.a0 v.c0 w' h hF.names hF.nc)
  have HL := Lib.hid (fun w' h1 h2 => sound t.left v.a2 v.a3 v.c2 v.c3 t.classes.length t.actions.length w' h1 h2 hF.nl hF.ml hF.rnl hF.rml hF.na)
  have HR := Lib.hid (fun w' h1 h2 => sound t.right v.a4 v.a5 v.c4 v.c5 t.classes.length t.actions.length w' h1 h2 hF.nr hF.mr hF.rnr hF.rmr hF.na)
  have hna := hF.na
  generalize soundB t.left t.classes.length t.actions.length = sl at HV HL
  generalize soundB t.right t.classes.length t.actions.length = sr at HV HR
  generalize validB t = r at HV
  have T0 := Lib.hid hT.classes
  have T1 := Lib.hid hT.actions
  have T2 := Lib.hid hT.ln
  have T3 := Lib.hid hT.lm
  have T4 := Lib.hid hT.rn
  have T5 := Lib.hid hT.rm
  clear hT hF
  unfold tabCells
  obtain ⟨a0, a1, a2, a3, a4, a5, c0, c1, c2, c3, c4, c5⟩ := v
  obtain ⟨cls, acts, ⟨ln, lm⟩, ⟨rn, rm⟩⟩ := t
  dsimp only at HV HC HL HR T0 T1 T2 T3 T4 T5 hna ⊢
  generalize hcs : (#[.slice a0 cls.length c0, .slice a1 acts.length c1, .slice a2 ln.length c2, .slice a3 lm.length c3, .slice a4 rn.length c4, .slice a5 rm.length c5] : Array Value) = cs
  have hk := Lib.hid (Blk.new w cs 28)
  subst hcs
  have hbx := bBox w (.cells #[.slice a0 cls.length c0, .slice a1 acts.length c1, .slice a2 ln.length c2, .slice a3 lm.length c3, .slice a4 rn.length c4, .slice a5 rm.length c5] 28)
  go_enter Tryd.func10, Tryd.ntmps10
  go_wp2_with fail
  generalize w.alloc (.cells #[.slice a0 cls.length c0, .slice a1 acts.length c1, .slice a2 ln.length c2, .slice a3 lm.length c3, .slice a4 rn.length c4, .slice a5 rm.length c5] 28) = w1 at hbx hk ⊢
  refine (HC.out _ (T0.out.keep hbx)).mono ?_
  clear HC
  rintro e w2 ⟨rfl, hb2⟩
  have hk2 := Lib.hid (hk.out.keep hb2)
  have hbx2 := bUp hbx hb2
  clear hk hbx hb2 w1
  have k0 : w2.cell? ⟨w.heap.size, 0, none⟩ = some (.slice a0 cls.length c0) := hk2.out.cell 0
  have k1 : w2.cell? ⟨w.heap.size, 1, none⟩ = some (.slice a1 acts.length c1) := hk2.out.cell 1
  have k2 : w2.cell? ⟨w.heap.size, 2, none⟩ = some (.slice a2 ln.length c2) := hk2.out.cell 2
  have k3 : w2.cell? ⟨w.heap.size, 3, none⟩ = some (.slice a3 lm.length c3) := hk2.out.cell 3
  have k4 : w2.cell? ⟨w.heap.size, 4, none⟩ = some (.slice a4 rn.length c4) := hk2.out.cell 4
  have k5 : w2.cell? ⟨w.heap.size, 5, none⟩ = some (.slice a5 rm.length c5) := hk2.out.cell 5
  cases hn : namesOk cls with
  | false =>
    rw [hn] at HV
    have HF : Hid (r = false) := Lib.hid (by rw [HV.out]; simp)
    obtain rfl : r = false := HF.out
    clear HF HV hn
    rw [if_neg (by simp)]
    go_wp2_with fail
    go_ret
    exact ⟨rfl, hbx2⟩
  | true =>
    rw [hn, Bool.true_and] at HV
    rw [if_pos (by rfl)]
    clear hn
    by_cases h1 : acts.length ≤ 100
    · have t1 : decide (100 < acts.length) = false := decide_eq_false (by omega)
      have t2 : decide ((100 : Int) < acts.length) = false := decide_eq_false (by omega)
      rw [show decide (acts.length ≤ 100) = true from decide_eq_true h1, Bool.true_and] at HV
      go_wp2_with fail
      clear t1 t2
      go_loop [19] (fun i => ∃ m : Nat, m ≤ acts.length ∧ i = .int .i64 m ∧ Hid ((acts.take m).all actOk = true)) (fun i => acts.length - (intOf i).toNat)
      case atStart => exact ⟨0, Nat.zero_le _, rfl, Lib.hid rfl⟩
      case round =>
        obtain ⟨m, hm, rfl, HG⟩ := hrel
        by_cases hlt : m < acts.length
        · have hmi : (m : Int) < acts.length := by omega
          obtain ⟨b, off, rfl, hb, hc⟩ := (T1.out.keep hbx2).at_ hlt
          have HA1 := Lib.hid (fun h => all_bad (P := actOk) hlt h)
          have HA2 := Lib.hid (fun h => all_step (P := actOk) hlt HG.out h)
          generalize nth acts m = x at hc HA1 HA2
          by_cases hx : x = 1 ∨ x = 2 ∨ x = 3
          · have HE := Lib.hid (HA2.out (by unfold actOk; rw [show decide (1 ≤ x) = true from decide_eq_true (by omega), show decide (x ≤ 3) = true from decide_eq_true (by omega)]; rfl))
            rcases hx with rfl | rfl | rfl
            all_goals
              go_wp2_with fail
              go_round
              case rel => exact ⟨m + 1, by omega, by go_num, HE⟩
              case measure => simp [intOf]; omega
          · have HE := Lib.hid (HA1.out (by
              unfold actOk
              by_cases h1 : 1 ≤ x
              · rw [show decide (x ≤ 3) = false from decide_eq_false (by omega), Bool.and_false]
              · rw [show decide (1 ≤ x) = false from decide_eq_false h1, Bool.false_and]))
            have t1 : (x != 1) = true := by simp; omega
            have t2 : (x != 2) = true := by simp; omega
            have t3 : (x != 3) = true := by simp; omega
            have HF : Hid (r = false) := Lib.hid (by rw [HV.out, HE.out, Bool.false_and])
            obtain rfl : r = false := HF.out
            clear hx HF
            go_wp2_with fail
            go_ret
            exact ⟨rfl, hbx2⟩
        · obtain rfl : m = acts.length := by omega
          have hmi : ¬ (acts.length : Int) < acts.length := by omega
          rw [show acts.all actOk = true by have := HG.out; rwa [List.take_length] at this, Bool.true_and] at HV
          clear HG
          go_wp2_with fail
          refine (HL.out _ (T2.out.keep hbx2) (T3.out.keep hbx2)).mono ?_
          clear HL
          rintro e w3 ⟨rfl, hb3⟩
          cases sl with
          | false =>
            have HF : Hid (r = false) := HV
            obtain rfl : r = false := HF.out
            clear HF HV
            go_wp2_with fail
            go_ret
            exact ⟨rfl, bUp hbx2 hb3⟩
          | true =>
            rw [Bool.true_and] at HV
            have hk3 := Lib.hid (hk2.out.keep hb3)
            have hbx3 := bUp hbx2 hb3
            clear k0 k1 k2 k3 k4 k5 hb3 hbx2 hk2
            have k0 : w3.cell? ⟨w.heap.size, 0, none⟩ = some (.slice a0 cls.length c0) := hk3.out.cell 0
            have k1 : w3.cell? ⟨w.heap.size, 1, none⟩ = some (.slice a1 acts.length c1) := hk3.out.cell 1
            have k4 : w3.cell? ⟨w.heap.size, 4, none⟩ = some (.slice a4 rn.length c4) := hk3.out.cell 4
            have k5 : w3.cell? ⟨w.heap.size, 5, none⟩ = some (.slice a5 rm.length c5) := hk3.out.cell 5
            go_wp2_with fail
            refine (HR.out _ (T4.out.keep hbx3) (T5.out.keep hbx3)).mono ?_
            clear HR
            rintro e w4 ⟨rfl, hb4⟩
            obtain rfl : r = sr := HV.out
            clear HV
            go_wp2_with fail
            go_ret
            exact ⟨rfl, bUp hbx3 hb4⟩
    · have t1 : decide (100 < acts.length) = true := decide_eq_true (by omega)
      have t2 : decide ((100 : Int) < acts.length) = true := decide_eq_true (by omega)
      rw [show decide (acts.length ≤ 100) = false from decide_eq_false h1, Bool.false_and, Bool.false_and] at HV
      obtain rfl : r = false := HV.out
      clear HV
      go_wp2_with fail
      go_ret
      exact ⟨rfl, hbx2⟩
end Go.Proofs.YtlmdjggpeiddoaaDoor
namespace Go.Proofs.YtlmdjggpeiddoaaDoor
open Go.RowKit Go.Sort

set_option maxHeartbeats 4000000 in
set_option maxRecDepth 100000 in
theorem rfValid (t : TabD) (v : TabV) (w : World) (hT : TabAt w t v) (hF : TabFew t) :
    Calls Tryd.prog 11 #[.agg (tabCells t v)] w fun e w' => e = .returned (.bool (validB t)) ∧ Below w.heap.size w w' := by
  have HV := Lib.hid (show validB t = (namesOk t.classes && decide (t.actions.length ≤ 100) && t.actions.all actOk && (soundB t.left t.classes.length t.actions.length && soundB t.right t.classes.length t.actions.length)) from rfl)
  have HC := Lib.hid (fun w' h => rfNamed t.classes v.a0 v.c0 w' h hF.names hF.nc)
  have HL := Lib.hid (fun w' h1 h2 => rfSound t.left v.a2 v.a3 v.c2 v.c3 t.classes.length t.actions.length w' h1 h2 hF.nl hF.ml hF.rnl hF.rml hF.na)
  have HR := Lib.hid (fun w' h1 h2 => rfSound t.right v.a4 v.a5 v.c4 v.c5 t.classes.length t.actions.length w' h1 h2 hF.nr hF.mr hF.rnr hF.rmr hF.na)
  have hna := hF.na
  generalize soundB t.left t.classes.length t.actions.length = sl at HV HL
  generalize soundB t.right t.classes.length t.actions.length = sr at HV HR
  generalize validB t = r at HV
  have T0 := Lib.hid hT.classes
  have T1 := Lib.hid hT.actions
  have T2 := Lib.hid hT.ln
  have T3 := Lib.hid hT.lm
  have T4 := Lib.hid hT.rn
  have T5 := Lib.hid hT.rm
  clear hT hF
  unfold tabCells
  obtain ⟨a0, a1, a2, a3, a4, a5, c0, c1, c2, c3, c4, c5⟩ := v
  obtain ⟨cls, acts, ⟨ln, lm⟩, ⟨rn, rm⟩⟩ := t
  dsimp only at HV HC HL HR T0 T1 T2 T3 T4 T5 hna ⊢
  generalize hcs : (#[.slice a0 cls.length c0, .slice a1 acts.length c1, .slice a2 ln.length c2, .slice a3 lm.length c3, .slice a4 rn.length c4, .slice a5 rm.length c5] : Array Value) = cs
  have hk := Lib.hid (Blk.new w cs 28)
  subst hcs
  have hbx := bBox w (.cells #[.slice a0 cls.length c0, .slice a1 acts.length c1, .slice a2 ln.length c2, .slice a3 lm.length c3, .slice a4 rn.length c4, .slice a5 rm.length c5] 28)
  go_enter Tryd.func11, Tryd.ntmps11
  go_wp2_with fail
  generalize w.alloc (.cells #[.slice a0 cls.length c0, .slice a1 acts.length c1, .slice a2 ln.length c2, .slice a3 lm.length c3, .slice a4 rn.length c4, .slice a5 rm.length c5] 28) = w2 at hbx hk ⊢
  have hbx2 := hbx
  have hk2 := hk
  clear hbx hk
  have k0 : w2.cell? ⟨w.heap.size, 0, none⟩ = some (.slice a0 cls.length c0) := hk2.out.cell 0
  have k1 : w2.cell? ⟨w.heap.size, 1, none⟩ = some (.slice a1 acts.length c1) := hk2.out.cell 1
  have k2 : w2.cell? ⟨w.heap.size, 2, none⟩ = some (.slice a2 ln.length c2) := hk2.out.cell 2
  have k3 : w2.cell? ⟨w.heap.size, 3, none⟩ = some (.slice a3 lm.length c3) := hk2.out.cell 3
  have k4 : w2.cell? ⟨w.heap.size, 4, none⟩ = some (.slice a4 rn.length c4) := hk2.out.cell 4
  have k5 : w2.cell? ⟨w.heap.size, 5, none⟩ = some (.slice a5 rm.length c5) := hk2.out.cell 5
  go_loop [3] (fun i => ∃ m : Nat, m ≤ acts.length ∧ i = .int .i64 m ∧ Hid ((acts.take m).all actOk = true)) (fun i => acts.length - (intOf i).toNat)
  case atStart => exact ⟨0, Nat.zero_le _, rfl, Lib.hid rfl⟩
  case round =>
    obtain ⟨m, hm, rfl, HG⟩ := hrel
    by_cases hlt : m < acts.length
    · have hmi : (m : Int) < acts.length := by omega
      obtain ⟨b, off, rfl, hb, hc⟩ := (T1.out.keep hbx2).at_ hlt
      have HA1 := Lib.hid (fun h => all_bad (P := actOk) hlt h)
      have HA2 := Lib.hid (fun h => all_step (P := actOk) hlt HG.out h)
      generalize nth acts m = x at hc HA1 HA2
      by_cases hx1 : 1 ≤ x
      · have t1 : decide (x < 1) = false := decide_eq_false (by omega)
        by_cases hx3 : x ≤ 3
        · have t2 : decide ((3 : Int) < x) = false := decide_eq_false (by omega)
          have HE := Lib.hid (HA2.out (by unfold actOk; rw [show decide (1 ≤ x) = true from decide_eq_true hx1, show decide (x ≤ 3) = true from decide_eq_true hx3]; rfl))
          go_wp2_with fail
          go_round
          case rel => exact ⟨m + 1, by omega, by go_num, HE⟩
          case measure => simp [intOf]; omega
        · have t2 : decide ((3 : Int) < x) = true := decide_eq_true (by omega)
          have HE := Lib.hid (HA1.out (by unfold actOk; rw [show decide (x ≤ 3) = false from decide_eq_false hx3, Bool.and_false]))
          have HF : Hid (r = false) := Lib.hid (by rw [HV.out, HE.out, Bool.and_false, Bool.false_and])
          obtain rfl : r = false := HF.out
          clear HF
          go_wp2_with fail
          go_ret
          exact ⟨rfl, hbx2⟩
      · have t1 : decide (x < 1) = true := decide_eq_true (by omega)
        have HE := Lib.hid (HA1.out (by unfold actOk; rw [show decide (1 ≤ x) = false from decide_eq_false hx1, Bool.false_and]))
        have HF : Hid (r = false) := Lib.hid (by rw [HV.out, HE.out, Bool.and_false, Bool.false_and])
        obtain rfl : r = false := HF.out
        clear HF
        go_wp2_with fail
        go_ret
        exact ⟨rfl, hbx2⟩
    · obtain rfl : m = acts.length := by omega
      have hmi : ¬ (acts.length : Int) < acts.length := by omega
      rw [show acts.all actOk = true by have := HG.out; rwa [List.take_length] at this, Bool.and_true] at HV
      clear HG
      go_wp2_with fail
      refine (HC.out _ (T0.out.keep hbx2)).mono ?_
      clear HC
      rintro e w5 ⟨rfl, hb5⟩
      cases hn : namesOk cls with
      | false =>
        rw [hn] at HV
        have HF : Hid (r = false) := Lib.hid (by rw [HV.out]; simp)
        obtain rfl : r = false := HF.out
        clear HF HV hn
        go_wp2_with fail
        go_ret
        exact ⟨rfl, bUp hbx2 hb5⟩
      | true =>
        rw [hn, Bool.true_and] at HV
        clear hn
        have hk5 := Lib.hid (hk2.out.keep hb5)
        have hbx5 := bUp hbx2 hb5
        clear k0 k1 k2 k3 k4 k5 hb5 hbx2 hk2
        have k0 : w5.cell? ⟨w.heap.size, 0, none⟩ = some (.slice a0 cls.length c0) := hk5.out.cell 0
        have k1 : w5.cell? ⟨w.heap.size, 1, none⟩ = some (.slice a1 acts.length c1) := hk5.out.cell 1
        have k2 : w5.cell? ⟨w.heap.size, 2, none⟩ = some (.slice a2 ln.length c2) := hk5.out.cell 2
        have k3 : w5.cell? ⟨w.heap.size, 3, none⟩ = some (.slice a3 lm.length c3) := hk5.out.cell 3
        by_cases h1 : acts.length ≤ 100
        · have t1 : decide (acts.length ≤ 100) = true := decide_eq_true (by omega)
          have t2 : decide ((acts.length : Int) ≤ 100) = true := decide_eq_true (by omega)
          rw [t1, Bool.true_and] at HV
          go_wp2_with fail
          refine (HL.out _ (T2.out.keep hbx5) (T3.out.keep hbx5)).mono ?_
          clear HL
          rintro e w3 ⟨rfl, hb3⟩
          cases sl with
          | false =>
            have HF : Hid (r = false) := HV
            obtain rfl : r = false := HF.out
            clear HF HV
            go_wp2_with fail
            go_ret
            exact ⟨rfl, bUp hbx5 hb3⟩
          | true =>
            rw [Bool.true_and] at HV
            have hk3 := Lib.hid (hk5.out.keep hb3)
            have hbx3 := bUp hbx5 hb3
            clear k0 k1 k2 k3 hb3 hbx5 hk5
            have k0 : w3.cell? ⟨w.heap.size, 0, none⟩ = some (.slice a0 cls.length c0) := hk3.out.cell 0
            have k1 : w3.cell? ⟨w.heap.size, 1, none⟩ = some (.slice a1 acts.length c1) := hk3.out.cell 1
            have k4 : w3.cell? ⟨w.heap.size, 4, none⟩ = some (.slice a4 rn.length c4) := hk3.out.cell 4
            have k5 : w3.cell? ⟨w.heap.size, 5, none⟩ = some (.slice a5 rm.length c5) := hk3.out.cell 5
            go_wp2_with fail
            refine (HR.out _ (T4.out.keep hbx3) (T5.out.keep hbx3)).mono ?_
            clear HR
            rintro e w4 ⟨rfl, hb4⟩
            obtain rfl : r = sr := HV.out
            clear HV
            go_wp2_with fail
            go_ret
            exact ⟨rfl, bUp hbx3 hb4⟩
        · have t1 : decide (acts.length ≤ 100) = false := decide_eq_false (by omega)
          have t2 : decide ((acts.length : Int) ≤ 100) = false := decide_eq_false (by omega)
          rw [t1, Bool.false_and] at HV
          obtain rfl : r = false := HV.out
          clear HV
          go_wp2_with fail
          go_ret
          exact ⟨rfl, hbx5⟩
end Go.Proofs.YtlmdjggpeiddoaaDoor
namespace Go.Proofs.YtlmdjggpeiddoaaDoor
open Go.RowKit Go.Sort

/-- the states for each position from the right -/
def runB (nx : List (List Int)) : List Int → List Int
  | [] => [0]
  | c :: l => nth (rowAt nx (nth (runB nx l) 0).toNat) c.toNat :: runB nx l
theorem runB_length (nx : List (List Int)) : ∀ l : List Int, (runB nx l).length = l.length + 1
  | [] => rfl
  | c :: l => by rw [runB, List.length_cons, runB_length nx l]; simp
theorem runA_snoc (nx : List (List Int)) : ∀ (l : List Int) (s c : Int), runA nx s (l ++ [c]) = runA nx s l ++ [nth (rowAt nx (nth (runA nx s l) l.length).toNat) c.toNat]
  | [], s, c => rfl
  | d :: l, s, c => by
    rw [List.cons_append, runA, runA, runA_snoc nx l]
    simp [nth]
def usableB (t : TabD) (l : List Int) : Bool := l.all (inSt t.classes.length) && validB t
def leftT (t : TabD) (l : List Int) : List Int := if usableB t l = true then runA t.left.next 0 l else []
def rightT (t : TabD) (l : List Int) : List Int := if usableB t l = true then runB t.right.next l else []
/-- each state leads on to a state -/
def Steps (nx : List (List Int)) (cl : Nat) : Prop := 0 < nx.length ∧ ∀ s : Nat, s < nx.length → (rowAt nx s).length = cl ∧ ∀ c : Nat, c < cl → 0 ≤ nth (rowAt nx s) c ∧ nth (rowAt nx s) c < nx.length
theorem sound_steps {a : AutoD} {cl ac : Nat} (h : soundB a cl ac = true) : Steps a.next cl := by
  unfold soundB at h
  simp only [Bool.and_eq_true, decide_eq_true_eq] at h
  refine ⟨by omega, fun s hs => ?_⟩
  have h1 := List.all_eq_true.1 h.2 s (List.mem_range.2 hs)
  unfold stateOk rowOk at h1
  simp only [Bool.and_eq_true, decide_eq_true_eq] at h1
  refine ⟨h1.1.1, fun c hc => ?_⟩
  have h2 := List.all_eq_true.1 h1.1.2 (nth (rowAt a.next s) c) (nth_mem (by omega))
  simp only [Bool.and_eq_true, decide_eq_true_eq] at h2
  exact h2
theorem valid_left {t : TabD} (h : validB t = true) : soundB t.left t.classes.length t.actions.length = true := by
  unfold validB at h
  simp only [Bool.and_eq_true] at h
  exact h.2.1
theorem valid_right {t : TabD} (h : validB t = true) : soundB t.right t.classes.length t.actions.length = true := by
  unfold validB at h
  simp only [Bool.and_eq_true] at h
  exact h.2.2
theorem inSt_of {n : Nat} {x : Int} (h : inSt n x = true) : 0 ≤ x ∧ x < n := by
  unfold inSt at h
  simpa using h
theorem take_step {l : List Int} {k : Nat} (h : k < l.length) : l.take (k + 1) = l.take k ++ [nth l k] := by
  rw [List.take_succ_eq_append_getElem h, nth_lt h]
theorem take_set {os : List Int} {k : Nat} (x : Int) (h : k < os.length) : (os.set k x).take (k + 1) = os.take k ++ [x] := by
  rw [List.take_succ_eq_append_getElem (by simpa using h), List.take_set_of_le (Nat.le_refl k)]
  simp
theorem drop_set {os : List Int} {k : Nat} (x : Int) (h : k < os.length) : (os.set k x).drop k = x :: os.drop (k + 1) := by
  rw [List.drop_eq_getElem_cons (by simpa using h), List.drop_set_of_lt (by omega)]
  simp
theorem nth_take {l : List Int} {i k : Nat} (h : i < k) : nth (l.take k) i = nth l i := by
  unfold nth
  rw [List.getD_eq_getElem?_getD, List.getD_eq_getElem?_getD, List.getElem?_take_of_lt h]
theorem nth_drop {l : List Int} (k : Nat) : nth (l.drop k) 0 = nth l k := by simp [nth]
theorem nth_set_same {os : List Int} {k : Nat} {x : Int} (h : k < os.length) : nth (os.set k x) k = x := by simp [nth, h]

/-- block g is just the ints zs -/
def Arr (w : World) (g : Nat) (zs : List Int) : Prop := Blk w g (intVals zs).toArray 3
theorem Arr.get {w : World} {g : Nat} {zs : List Int} (h : Arr w g zs) {k : Nat} (hk : k < zs.length) : w.cell? ⟨g, k, none⟩ = some (.int .i64 (nth zs k)) := by
  rw [Blk.cell h k]
  simp [intVals, nth, hk]
theorem Arr.ints {w : World} {g : Nat} {zs : List Int} (h : Arr w g zs) : IntsAt w (some ⟨g, 0, none⟩) zs := by
  intro _
  refine ⟨g, 0, rfl, Blk.lt h, fun j hj => ?_⟩
  rw [Nat.zero_add]
  exact h.get hj
theorem Arr.set {w : World} {g : Nat} {zs : List Int} (h : Arr w g zs) (k : Nat) (x : Int) : Arr (w.setCell ⟨g, k, none⟩ (.int .i64 x)) g (zs.set k x) := by
  unfold Arr Blk at h ⊢
  simp only [World.setCell, Array.getElem?_modify, h, Option.map_some]
  congr 2
  simp [intVals, List.map_set]
theorem Arr.drew {w : World} {g : Nat} {zs : List Int} (h : Arr w g zs) (n : Nat) : Arr (w.drewN n) g zs := h
theorem Arr.keep {w w' : World} {g : Nat} {zs : List Int} (h : Arr w g zs) (hb : Below w.heap.size w w') : Arr w' g zs := Blk.keep h hb
theorem made_zero (n : Nat) : madeCells #[.int .i64 0] n = (intVals (List.replicate n 0)).toArray := by
  unfold madeCells intVals
  rw [List.map_replicate]
  apply Array.ext
  · simp
  · intro i h1 h2
    simp [Nat.mod_one]
theorem makeI (n : Nat) (hn : n ≤ 1000001) (w : World) : (Instr.makeSlice 23 (.int .i64 (n : Int)) (.int .i64 (n : Int))).run Tryd.prog w = .ok (.slice (some ⟨w.heap.size, 0, none⟩) n n) (w.alloc (.cells (intVals (List.replicate n 0)).toArray 3)) := by
  obtain ⟨i0, hi, hz0, hz1, hz2⟩ := info_parts infoInt
  have := run_make (P := Tryd.prog) w 23 3 i0 _ Tryd.underlying23 hi hz0 .i64 .i64 n n (by omega) (by omega) (by rw [hz2]; omega) (by omega)
  simp only [Int.toNat_natCast, hz1, Nat.mul_one] at this
  rw [this]
  rw [← made_zero]
  rfl
/-- the ending is a slice of ints -/
def SlInts (zs : List Int) (w : World) (e : Ending) (w' : World) : Prop := ∃ A c, e = .returned (.slice A zs.length c) ∧ Hid (IntsAt w' A zs) ∧ Hid (A = none → c = 0) ∧ Below w.heap.size w w'
theorem slints_nil {w w' : World} (hb : Below w.heap.size w w') : SlInts [] w (.returned (.slice none 0 0)) w' := ⟨none, 0, rfl, Lib.hid IntsAt.nil, Lib.hid fun _ => rfl, hb⟩
end Go.Proofs.YtlmdjggpeiddoaaDoor
namespace Go.Proofs.YtlmdjggpeiddoaaDoor
open Go.RowKit Go.Sort

theorem tab_cells {w : World} {b : Nat} {t : TabD} {a0 a1 a2 a3 a4 a5 : Option Addr} {c0 c1 c2 c3 c4 c5 : Nat} (h : Blk w b (tabCells t ⟨a0, a1, a2, a3, a4, a5, c0, c1, c2, c3, c4, c5⟩) 28) :
    w.cell? ⟨b, 0, none⟩ = some (.slice a0 t.classes.length c0) ∧ w.cell? ⟨b, 1, none⟩ = some (.slice a1 t.actions.length c1) ∧ w.cell? ⟨b, 2, none⟩ = some (.slice a2 t.left.next.length c2) ∧ w.cell? ⟨b, 3, none⟩ = some (.slice a3 t.left.marks.length c3) ∧
    w.cell? ⟨b, 4, none⟩ = some (.slice a4 t.right.next.length c4) ∧ w.cell? ⟨b, 5, none⟩ = some (.slice a5 t.right.marks.length c5) :=
  ⟨h.cell 0, h.cell 1, h.cell 2, h.cell 3, h.cell 4, h.cell 5⟩

set_option maxHeartbeats 4000000 in
set_option maxRecDepth 100000 in
theorem fits (t : TabD) (v : TabV) (l : List Int) (A : Option Addr) (c : Nat) (w : World) (hT : TabAt w t v) (hF : TabFew t) (hA : IntsAt w A l) (hl : l.length ≤ 1000000) :
    Calls Tryd.prog 33 #[.agg (tabCells t v), .slice A l.length c] w fun e w' => e = .returned (.bool (usableB t l)) ∧ Below w.heap.size w w' := by
  have HU := Lib.hid (show usableB t l = (l.all (inSt t.classes.length) && validB t) from rfl)
  have HV := Lib.hid (fun w' h => valid t v w' h hF)
  have hk := Lib.hid (Blk.new w (tabCells t v) 28)
  have hbx := bBox w (.cells (tabCells t v) 28)
  obtain ⟨a0, a1, a2, a3, a4, a5, c0, c1, c2, c3, c4, c5⟩ := v
  generalize usableB t l = r at HU
  generalize validB t = vb at HU HV
  have HT := Lib.hid hT
  have HA := Lib.hid hA
  clear hT hA
  clear hF
  unfold tabCells at HV
  have HK := Lib.hid (tab_cells hk.out)
  clear hk
  unfold tabCells at HK hbx ⊢
  dsimp only at HV HK hbx ⊢
  go_enter Tryd.func33, Tryd.ntmps33
  go_wp2_with fail
  generalize w.alloc (.cells #[.slice a0 t.classes.length c0, .slice a1 t.actions.length c1, .slice a2 t.left.next.length c2, .slice a3 t.left.marks.length c3, .slice a4 t.right.next.length c4, .slice a5 t.right.marks.length c5] 28) = w1 at hbx HK ⊢
  obtain ⟨k0, k1, k2, k3, k4, k5⟩ := HK.out
  go_loop [9] (fun i => ∃ m : Nat, m ≤ l.length ∧ i = .int .i64 m ∧ Hid ((l.take m).all (inSt t.classes.length) = true)) (fun i => l.length - (intOf i).toNat)
  case atStart => exact ⟨0, Nat.zero_le _, rfl, Lib.hid rfl⟩
  case round =>
    obtain ⟨m, hm, rfl, HG⟩ := hrel
    by_cases hlt : m < l.length
    · have hmi : (m : Int) < l.length := by omega
      obtain ⟨b, off, rfl, hb, hc⟩ := (HA.out.keep hbx).at_ hlt
      have HA1 := Lib.hid (fun h => all_bad (P := inSt t.classes.length) hlt h)
      have HA2 := Lib.hid (fun h => all_step (P := inSt t.classes.length) hlt HG.out h)
      generalize nth l m = x at hc HA1 HA2
      by_cases hx0 : 0 ≤ x
      · have t1 : decide (x < 0) = false := decide_eq_false (by omega)
        by_cases hx1 : x < t.classes.length
        · have t2 : decide ((t.classes.length : Int) ≤ x) = false := decide_eq_false (by omega)
          have HE := Lib.hid (HA2.out (by unfold inSt; rw [show decide (0 ≤ x) = true from decide_eq_true hx0, show decide (x < (t.classes.length : Int)) = true from decide_eq_true hx1]; rfl))
          clear hx0 hx1
          go_wp2_with fail
          go_round
          case rel => exact ⟨m + 1, by omega, by go_num, HE⟩
          case measure => simp [intOf]; omega
        · have t2 : decide ((t.classes.length : Int) ≤ x) = true := decide_eq_true (by omega)
          have HE := Lib.hid (HA1.out (by unfold inSt; rw [show decide (x < (t.classes.length : Int)) = false from decide_eq_false hx1, Bool.and_false]))
          have HF : Hid (r = false) := Lib.hid (by rw [HU.out, HE.out, Bool.false_and])
          obtain rfl : r = false := HF.out
          clear hx0 hx1 HF
          go_wp2_with fail
          go_ret
          exact ⟨rfl, hbx⟩
      · have t1 : decide (x < 0) = true := decide_eq_true (by omega)
        have HE := Lib.hid (HA1.out (by unfold inSt; rw [show decide (0 ≤ x) = false from decide_eq_false hx0, Bool.false_and]))
        have HF : Hid (r = false) := Lib.hid (by rw [HU.out, HE.out, Bool.false_and])
        obtain rfl : r = false := HF.out
        clear hx0 HF
        go_wp2_with fail
        go_ret
        exact ⟨rfl, hbx⟩
    · obtain rfl : m = l.length := by omega
      have hmi : ¬ (l.length : Int) < l.length := by omega
      rw [show l.all (inSt t.classes.length) = true by have := HG.out; rwa [List.take_length] at this, Bool.true_and] at HU
      clear HG
      obtain rfl : r = vb := HU.out
      clear HU
      go_wp2_with fail
      refine (HV.out _ (HT.out.keep hbx)).mono ?_
      rintro e w2 ⟨rfl, hb2⟩
      go_wp2_with fail
      go_ret
      exact ⟨rfl, bUp hbx hb2⟩

theorem usable_steps {t : TabD} {l : List Int} (h : usableB t l = true) : Steps t.left.next t.classes.length ∧ Steps t.right.next t.classes.length ∧ ∀ k, k < l.length → 0 ≤ nth l k ∧ nth l k < t.classes.length := by
  unfold usableB at h
  simp only [Bool.and_eq_true] at h
  exact ⟨sound_steps (valid_left h.2), sound_steps (valid_right h.2), fun k hk => inSt_of (List.all_eq_true.1 h.1 _ (nth_mem hk))⟩

set_option maxHeartbeats 8000000 in
set_option maxRecDepth 100000 in
theorem left (t : TabD) (v : TabV) (l : List Int) (A : Option Addr) (c : Nat) (w : World) (hT : TabAt w t v) (hF : TabFew t) (hA : IntsAt w A l) (hl : l.length ≤ 1000000) :
    Calls Tryd.prog 15 #[.agg (tabCells t v), .slice A l.length c] w (SlInts (leftT t l) w) := by
  have HV := Lib.hid (fun w' h h2 => fits t v l A c w' h hF h2 hl)
  have hk := Lib.hid (Blk.new w (tabCells t v) 28)
  have hbx := bBox w (.cells (tabCells t v) 28)
  obtain ⟨a0, a1, a2, a3, a4, a5, c0, c1, c2, c3, c4, c5⟩ := v
  have HT := Lib.hid hT
  have HA := Lib.hid hA
  clear hT hA
  clear hF
  unfold leftT
  cases hu : usableB t l with
  | false =>
    rw [hu] at HV
    rw [if_neg (by simp)]
    clear hu
    unfold tabCells at HV hk hbx ⊢
    dsimp only at HV hk hbx ⊢
    go_enter Tryd.func15, Tryd.ntmps15
    go_wp2_with fail
    refine (HV.out _ (HT.out.keep hbx) (HA.out.keep hbx)).mono ?_
    rintro e w2 ⟨rfl, hb2⟩
    go_wp2_with fail
    go_ret
    exact slints_nil (bUp hbx hb2)
  | true =>
    rw [hu] at HV
    rw [if_pos rfl]
    have HS := Lib.hid (usable_steps hu)
    clear hu
    have hmk := makeI (l.length + 1) (by omega)
    rw [show ((l.length + 1 : Nat) : Int) = (l.length : Int) + 1 by omega] at hmk
    unfold tabCells at HV hbx ⊢
    dsimp only at HV hbx ⊢
    go_enter Tryd.func15, Tryd.ntmps15
    go_wp2_with fail
    refine (HV.out _ (HT.out.keep hbx) (HA.out.keep hbx)).mono ?_
    rintro e w2 ⟨rfl, hb2⟩
    have hk2 := Lib.hid (Blk.keep hk.out hb2)
    have hb2 := bUp hbx hb2
    clear hk hbx HV
    have HT2 := Lib.hid (HT.out.keep hb2)
    have HA2 := Lib.hid (HA.out.keep hb2)
    clear HT HA
    go_wp2_with fail
    have hAr : Arr (w2.alloc (.cells (intVals (List.replicate (l.length + 1) 0)).toArray 3)) w2.heap.size (List.replicate (l.length + 1) 0) := Blk.new _ _ _
    have hbA := bBox w2 (.cells (intVals (List.replicate (l.length + 1) 0)).toArray 3)
    have hAr := Lib.hid hAr
    generalize w2.alloc (.cells (intVals (List.replicate (l.length + 1) 0)).toArray 3) = w3 at hAr hbA ⊢
    clear hmk
    go_loopw [18] (fun i wr => ∃ (m : Nat) (os : List Int), m ≤ l.length ∧ i = .int .i64 m ∧ Hid (os.length = l.length + 1) ∧ Hid (os.take (m + 1) = runA t.left.next 0 (l.take m)) ∧ Hid (0 ≤ nth os m ∧ nth os m < t.left.next.length) ∧ Hid (Arr wr w2.heap.size os) ∧ Below w2.heap.size w2 wr) (fun i _ => l.length - (intOf i).toNat)
    case atStart =>
      refine ⟨0, List.replicate (l.length + 1) 0, Nat.zero_le _, rfl, Lib.hid (by simp), Lib.hid (by simp [List.replicate_succ, runA]), Lib.hid ?_, hAr, hbA⟩
      have h0 : nth (List.replicate (l.length + 1) 0) 0 = 0 := by simp [nth, List.replicate_succ]
      rw [h0]
      have := HS.out.1.1
      omega
    case round =>
      obtain ⟨m, os, hm, rfl, HL, HR, HB, HAr, hbr⟩ := hrel
      by_cases hlt : m < l.length
      · have hmi : (m : Int) < l.length := by omega
        have hmo : m < os.length := by rw [HL.out]; omega
        have hmo1 : m + 1 < os.length := by rw [HL.out]; omega
        obtain ⟨bl, ol, rfl, hbl, hcl⟩ := (HA2.out.keep hbr).at_ hlt
        have co := HAr.out.get hmo
        have hs0 := HB.out.1
        have hs1 := HB.out.2
        have hc0 := (HS.out.2.2 m hlt).1
        have hc1 := (HS.out.2.2 m hlt).2
        have HX := Lib.hid (fun x => HAr.out.set (m + 1) x)
        have HN := Lib.hid (fun x => take_set x hmo1)
        have HO := Lib.hid (fun x : Int => nth_set_same (x := x) hmo1)
        have HQ := Lib.hid (show runA t.left.next 0 (l.take (m + 1)) = os.take (m + 1) ++ [nth (rowAt t.left.next (nth os m).toNat) (nth l m).toNat] by
          rw [take_step hlt, runA_snoc, ← HR.out, nth_take (by simp; omega)]
          simp [Nat.min_eq_left hm])
        generalize nth os m = s at co hs0 hs1 HQ
        generalize nth l m = d at hcl hc0 hc1 HQ
        obtain ⟨sn, rfl⟩ := Int.eq_ofNat_of_zero_le hs0
        obtain ⟨dn, rfl⟩ := Int.eq_ofNat_of_zero_le hc0
        have hsn : sn < t.left.next.length := by omega
        have hdn : dn < t.classes.length := by omega
        rw [Int.toNat_natCast, Int.toNat_natCast] at HQ
        obtain ⟨hrl, hst⟩ := HS.out.1.2 sn hsn
        have HZ := Lib.hid (hst dn hdn)
        clear hst
        obtain ⟨bR, oR, B, cB, rfl, hbR, hcR, hI⟩ := (HT2.out.keep hbr).ln.at_ hsn
        have hdr : (dn : Int) < (rowAt t.left.next sn).length := by omega
        obtain ⟨bE, oE, rfl, hbE, hcE⟩ := hI.at_ (k := dn) (by omega)
        clear hI hrl
        generalize nth (rowAt t.left.next sn) dn = x at hcE HZ HQ
        generalize (rowAt t.left.next sn).length = rl at hcR hdr
        obtain ⟨_, _, q2, _, _, _⟩ := tab_cells (hk2.out.keepB hbr hk2.out.lt)
        have hw : IntKind.i64.wrap ((m : Int) + 1) = (m : Int) + 1 := IntWalk.i64_in _ (by omega)
        have hw2 : ((m : Int) + 1).toNat = m + 1 := by omega
        have hw3 : 0 ≤ (m : Int) + 1 := by omega
        have hw4 : (m : Int) + 1 < (l.length : Int) + 1 := by omega
        have co1 := HAr.out.get hmo1
        have hf : wr.frozen? ⟨w2.heap.size, m + 1, none⟩ = false := HAr.out.frozen _
        have hz := Lib.hid HAr.out.lt
        go_wp2_with fail
        go_region
        go_wp2_with fail
        go_roundw
        case rel => exact ⟨m + 1, os.set (m + 1) x, by omega, by go_num, Lib.hid (by rw [List.length_set]; exact HL.out), Lib.hid ((HN.out x).trans HQ.out.symm), Lib.hid (by rw [HO.out]; exact HZ.out), Lib.hid (HX.out x), (hbr.setCell (p := ⟨w2.heap.size, m + 1, none⟩) (Nat.le_refl _) _).drew⟩
        case measure => simp [intOf]; omega
      · obtain rfl : m = l.length := by omega
        have hmi : ¬ (l.length : Int) < l.length := by omega
        have HE : Hid (os = runA t.left.next 0 l) := Lib.hid (by
          have := HR.out
          rwa [List.take_of_length_le (by rw [HL.out]; omega), List.take_length] at this)
        have hlen := Lib.hid (runA_length t.left.next l 0)
        go_wp2_with fail
        go_ret
        refine ⟨some ⟨w2.heap.size, 0, none⟩, l.length + 1, by rw [hlen.out]; rfl, Lib.hid ?_, Lib.hid (fun h => by cases h), bUp hb2 hbr⟩
        rw [← HE.out]
        exact HAr.out.ints
end Go.Proofs.YtlmdjggpeiddoaaDoor
