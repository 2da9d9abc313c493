/- The law of reading files -/
import Derived.Test.YthogkokifiibnaaGreatDoorR14
namespace Go.Proofs.YthogkokifiibnaaGreatDoor
open Go.RowKit Go.Sort

/-- what is read is of modest size -/
theorem reads_small (l : List UInt8) : (parseF l).1.entries.length ≤ 100000 ∧ (parseF l).1.groups.length ≤ 100000 ∧ (∀ x ∈ (parseF l).1.entries, x.codes.length ≤ 100000) ∧ (∀ x ∈ (parseF l).1.entries, x.els.length ≤ 100000) := by
  by_cases h1 : 65536 < l.length
  · have e : parseF l = (zeroC, (2, 0)) := by simp [parseF, h1]
    rw [e]
    exact ⟨by simp [zeroC], by simp [zeroC], (fun x hx => by simp [zeroC] at hx), (fun x hx => by simp [zeroC] at hx)⟩
  · have hr := parse_reads (l := l) (by omega)
    rcases hr with ⟨_, e, _⟩ | ⟨_, _, _, h2, h3, h4⟩
    · rw [e]
      exact ⟨by simp [zeroC], by simp [zeroC], (fun x hx => by simp [zeroC] at hx), (fun x hx => by simp [zeroC] at hx)⟩
    · exact ⟨by omega, by omega, (fun x hx => by have := (h4 x hx).1; omega), (fun x hx => by have := (h4 x hx).2; omega)⟩

set_option maxHeartbeats 4000000 in
set_option maxRecDepth 100000 in
theorem lawEReads (l : List UInt8) (w : World) (hs : l.length ≤ 9223372036854775807) (hE : EnvF w) :
    Calls Tryz.prog 6 #[.string ⟨l.toArray⟩] w fun e w' => e = .returned (.bool true) ∧ Below w.heap.size w w' := by
  by_cases hmid : 1500 < l.length ∧ l.length ≤ 65536
  · have d1 : decide ((1500 : Int) < (l.length : Int)) = true := by simp; omega
    have d2 : decide ((l.length : Int) ≤ 65536) = true := by simp; omega
    have HE := Lib.hid hE
    have Hmid := Lib.hid hmid
    clear hE hmid
    go_enter Tryz.func6, Tryz.ntmps6
    go_wp2_with fail
    refine (elAlive _ HE.out).mono ?_
    rintro e w4 ⟨rfl, hb4⟩
    go_wp2_with fail
    go_ret
    exact ⟨rfl, hb4⟩
  · have HP := Lib.hid (fun w' hE' => elParseFile l w' hE' hs)
    have HR := Lib.hid (fun w' => rfParseFile l w' hs)
    obtain ⟨hne, hng, hcl, hll⟩ := reads_small l
    unfold FileOut at HP HR
    generalize parseF l = pf at HP HR hne hng hcl hll
    obtain ⟨⟨es, gs, b, s, t⟩, fe, fn⟩ := pf
    dsimp only at HP HR hne hng hcl hll
    have hSa := fun w' E1 G1 E2 G2 e1 g1 e2 g2 h1 h2 h3 h4 => rfSame es gs b s t E1 G1 E2 G2 e1 g1 e2 g2 w' h1 h2 h3 h4 hne hng hcl hll
    have q1 : (fe == fe) = true := by simp
    have q2 : (fn == fn) = true := by simp
    have HE := Lib.hid hE
    have HSa := Lib.hid hSa
    have Hcl := Lib.hid hcl
    have Hll := Lib.hid hll
    clear hE hSa hcl hll
    have hcase : (l.length : Int) ≤ 1500 ∨ (1500 < (l.length : Int) ∧ 65536 < (l.length : Int)) := by omega
    have dd : ∃ b1 b2 : Bool, decide ((1500 : Int) < (l.length : Int)) = b1 ∧ decide ((l.length : Int) ≤ 65536) = b2 ∧ (b1 && b2) = false := by
      refine ⟨_, _, rfl, rfl, ?_⟩
      rcases hcase with h | h
      · rw [decide_eq_false (by omega)]
        rfl
      · rw [decide_eq_false (show ¬ (l.length : Int) ≤ 65536 by omega), Bool.and_false]
    obtain ⟨b1, b2, d1, d2, d3⟩ := dd
    clear hcase hmid
    cases b1 <;> cases b2
    case true.true => cases d3
    all_goals
      clear d3
      go_enter Tryz.func6, Tryz.ntmps6
      go_wp2_with fail
      refine (HP.out _ HE.out).mono ?_
      rintro e w1 ⟨E1, e1, G1, g1, rfl, hN1, hG1, hb1⟩
      have hA := (Blk.new w1 #[.slice E1 es.length e1, .slice G1 gs.length g1, .int .i64 b, .int .i64 s, .int .i64 t] 35).alloc (.cells #[.int .i64 fe, .int .i64 fn] 39)
      have hF := Blk.new (w1.alloc (.cells #[.slice E1 es.length e1, .slice G1 gs.length g1, .int .i64 b, .int .i64 s, .int .i64 t] 35)) #[.int .i64 fe, .int .i64 fn] 39
      rw [show (w1.alloc (.cells #[.slice E1 es.length e1, .slice G1 gs.length g1, .int .i64 b, .int .i64 s, .int .i64 t] 35)).heap.size = w1.heap.size + 1 by simp] at hF
      have h12 := bUp (bBox w1 (.cells #[.slice E1 es.length e1, .slice G1 gs.length g1, .int .i64 b, .int .i64 s, .int .i64 t] 35)) (bBox _ (.cells #[.int .i64 fe, .int .i64 fn] 39))
      have HA := Lib.hid hA
      have HF := Lib.hid hF
      have H12 := Lib.hid h12
      have HN1 := Lib.hid (hN1.keep h12)
      have HG1 := Lib.hid (hG1.keep h12)
      have H01 := Lib.hid hb1
      clear hA hF h12 hN1 hG1 hb1
      go_wp2_with fail
      refine (HR.out _).mono ?_
      rintro e w2 ⟨E2, e2, G2, g2, rfl, hN2, hG2, hb2⟩
      have HA2 := Lib.hid (HA.out.keep hb2)
      have HF2 := Lib.hid (HF.out.keep hb2)
      have HN12 := Lib.hid (HN1.out.keep hb2)
      have HG12 := Lib.hid (HG1.out.keep hb2)
      have H02 := Lib.hid (bUp (bUp H01.out H12.out) hb2)
      have HN2 := Lib.hid hN2
      have HG2 := Lib.hid hG2
      clear hb2 hN2 hG2 HN1 HG1 HA HF
      have hB := (Blk.new w2 #[.slice E2 es.length e2, .slice G2 gs.length g2, .int .i64 b, .int .i64 s, .int .i64 t] 35).alloc (.cells #[.int .i64 fe, .int .i64 fn] 39)
      have hF3 := Blk.new (w2.alloc (.cells #[.slice E2 es.length e2, .slice G2 gs.length g2, .int .i64 b, .int .i64 s, .int .i64 t] 35)) #[.int .i64 fe, .int .i64 fn] 39
      rw [show (w2.alloc (.cells #[.slice E2 es.length e2, .slice G2 gs.length g2, .int .i64 b, .int .i64 s, .int .i64 t] 35)).heap.size = w2.heap.size + 1 by simp] at hF3
      have h23 := bUp (bBox w2 (.cells #[.slice E2 es.length e2, .slice G2 gs.length g2, .int .i64 b, .int .i64 s, .int .i64 t] 35)) (bBox _ (.cells #[.int .i64 fe, .int .i64 fn] 39))
      have HF13 := Lib.hid (HF2.out.keep h23)
      have HF23 := Lib.hid hF3
      have H23 := Lib.hid h23
      clear hB hF3 h23
      have a0 : w2.cell? ⟨w1.heap.size, 0, none⟩ = some (.slice E1 es.length e1) := HA2.out.cell 0
      have a1 : w2.cell? ⟨w1.heap.size, 1, none⟩ = some (.slice G1 gs.length g1) := HA2.out.cell 1
      have a2 : w2.cell? ⟨w1.heap.size, 2, none⟩ = some (.int .i64 b) := HA2.out.cell 2
      have a3 : w2.cell? ⟨w1.heap.size, 3, none⟩ = some (.int .i64 s) := HA2.out.cell 3
      have a4 : w2.cell? ⟨w1.heap.size, 4, none⟩ = some (.int .i64 t) := HA2.out.cell 4
      have z1 := HA2.out.lt
      have y1 := Nat.le_of_lt z1
      have x1 : w1.heap.size ≤ w2.heap.size + 1 := by omega
      have u1 : w1.heap.size < w2.heap.size + 1 := by omega
      go_wp2_with fail
      refine (HSa.out _ E1 G1 E2 G2 e1 g1 e2 g2 (HN12.out.keep H23.out) (HG12.out.keep H23.out) (HN2.out.keep H23.out) (HG2.out.keep H23.out)).mono ?_
      rintro e w3 ⟨rfl, hb3⟩
      have hF1 := HF13.out.keep hb3
      have hF2 := HF23.out.keep hb3
      have hw3 := bUp (bUp H02.out H23.out) hb3
      clear a0 a1 a2 a3 a4 z1 y1 x1 u1 hb3
      have p0 : w3.cell? ⟨w1.heap.size + 1, 0, none⟩ = some (.int .i64 fe) := hF1.cell 0
      have p1 : w3.cell? ⟨w1.heap.size + 1, 1, none⟩ = some (.int .i64 fn) := hF1.cell 1
      have p2 : w3.cell? ⟨w2.heap.size + 1, 0, none⟩ = some (.int .i64 fe) := hF2.cell 0
      have p3 : w3.cell? ⟨w2.heap.size + 1, 1, none⟩ = some (.int .i64 fn) := hF2.cell 1
      clear hF1 hF2
      go_wp2_with fail
      refine (elAlive _ (HE.out.keep hw3)).mono ?_
      rintro e w4 ⟨rfl, hb4⟩
      go_wp2_with fail
      go_ret
      exact ⟨rfl, bUp hw3 hb4⟩
end Go.Proofs.YthogkokifiibnaaGreatDoor
