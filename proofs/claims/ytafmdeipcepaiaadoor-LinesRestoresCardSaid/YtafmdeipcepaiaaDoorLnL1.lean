/- LinesParses -/
import Derived.Test.YtafmdeipcepaiaaDoorLn15
namespace Go.Proofs.YtafmdeipcepaiaaDoor
open Go.RowKit Go.Sort

/-- the lines that Parse gives back, and its fault -/
def resL (l : List UInt8) : List LineD := if (badL (linesOf l)).isSome then [] else goodL (linesOf l)
def fltE (l : List UInt8) : Int := if (badL (linesOf l)).isSome then 3 else 0
def fltK (l : List UInt8) : Int := match badL (linesOf l) with | some k => k | none => 0
theorem ParseOut.out {w : World} {base : Nat} {l : List UInt8} {e : Ending} (h : ParseOut w base l e) : ∃ A c, e = .returned (.tuple #[.slice A (resL l).length c, .agg #[.int .i64 (fltE l), .int .i64 (fltK l)]]) ∧ LinesAt w A (resL l) ∧ (resL l).length ≤ c := by
  unfold ParseOut at h
  unfold resL fltE fltK
  cases hb : badL (linesOf l) with
  | some k =>
    rw [hb] at h
    exact ⟨none, 0, h, fun hz => by simp at hz, by simp⟩
  | none =>
    rw [hb] at h
    obtain ⟨A, c, rfl, hO⟩ := h
    have hf := hO.form
    obtain ⟨A', c', e1, hc⟩ := hf
    injection e1 with _ _ e3
    exact ⟨A, c, rfl, hO.lines, by rw [e3]; exact hc⟩
theorem goodL_mem {xs : List NL} {d : LineD} (h : d ∈ goodL xs) : ∃ x ∈ xs, lineQ x.1 = some (some d) := by
  unfold goodL at h
  obtain ⟨x, hx, hd⟩ := List.mem_flatMap.1 h
  refine ⟨x, hx, ?_⟩
  cases hq : lineQ x.1 with
  | none => rw [hq] at hd; simp at hd
  | some o =>
    rw [hq] at hd
    simp at hd
    rw [hd]
theorem lineQ_some {q : Nat × List UInt8} {d : LineD} (h : lineQ q = some (some d)) : ∃ r, spanP (trimL ((splitL 59 (commentP q.2).1).headD [])) = some r ∧ d = ⟨q.1, r.1, r.2, ((splitL 59 (commentP q.2).1).drop 1).map trimL, (commentP q.2).2⟩ := by
  unfold lineQ at h
  split at h
  · cases h
  · cases hs : spanP (trimL ((splitL 59 (commentP q.2).1).headD [])) with
    | none => rw [hs] at h; cases h
    | some r =>
      rw [hs] at h
      simp only [Option.map_some, Option.some.injEq] at h
      exact ⟨r, rfl, h.symm⟩
/-- the sizes of what is read -/
structure SmallD (d : LineD) : Prop where
  num : 0 ≤ d.num ∧ d.num ≤ 65537
  cnt : d.fields.length ≤ 65537
  len : ∀ f ∈ d.fields, f.length ≤ 65536
  com : d.com.length ≤ 65536
theorem small_of_mem {xs : List NL} {d : LineD} (h : d ∈ goodL xs) : SmallD d := by
  obtain ⟨x, _, hq⟩ := goodL_mem h
  obtain ⟨r, _, rfl⟩ := lineQ_some hq
  obtain ⟨⟨k, p⟩, hk, hp⟩ := x
  dsimp only at hk hp ⊢
  have hc := commentP_le p
  refine ⟨⟨by simp only; omega, by simp only; omega⟩, ?_, ?_, by simp only; omega⟩
  · have := List.count_le_length (a := (59 : UInt8)) (l := (commentP p).1)
    simp only [List.length_map, List.length_drop, splitL_length]
    omega
  · intro f hf
    simp only [List.mem_map] at hf
    obtain ⟨g, hg, rfl⟩ := hf
    have h1 := splitL_piece_le 59 _ g (List.mem_of_mem_drop hg)
    have h2 := trimL_le g
    omega
theorem small_res {l : List UInt8} {d : LineD} (h : d ∈ resL l) : SmallD d := by
  unfold resL at h
  split at h
  · cases h
  · exact small_of_mem h
theorem resL_length {l : List UInt8} (hl : l.length ≤ 65536) : (resL l).length ≤ 65537 := by
  unfold resL
  split
  · simp
  · have := goodL_le (linesOf l)
    have := linesOf_length l
    omega
theorem shiftL_zero (ls : List LineD) : shiftL 0 ls = ls := by simp [shiftL]

set_option maxHeartbeats 8000000 in
set_option maxRecDepth 100000 in
theorem lawLParses (l : List UInt8) (w : World) (hl : l.length ≤ 9223372036854775807) (hE : Env w) :
    Calls Tryd.prog 3 #[.string ⟨l.toArray⟩] w fun e w' => e = .returned (.bool true) ∧ Below w.heap.size w w' := by
  have HE := Lib.hid hE
  clear hE
  by_cases hlen : l.length ≤ 2000
  · have hd : decide ((2000 : Int) < l.length) = false := decide_eq_false (by omega)
    have HP := Lib.hid (lnParse l w HE.out (by omega))
    go_enter Tryd.func3, Tryd.ntmps3
    go_wp2_with fail
    refine HP.out.mono ?_
    rintro e w1 ⟨hO, hb1⟩
    obtain ⟨A, cp, rfl, hA, _⟩ := hO.out
    have HR := Lib.hid (rfParse9 l (w1.alloc (.cells #[.int .i64 (fltE l), .int .i64 (fltK l)] 26)) (by omega))
    have HRo := Lib.hid (fun (w' : World) (base : Nat) e (h : ParseOut w' base l e) => h.out)
    have H1 := Lib.hid hb1
    have HA := Lib.hid hA
    clear hO hb1 hA
    have hrl := resL_length (l := l) (by omega)
    have HS := Lib.hid (fun d (h : d ∈ resL l) => small_res h)
    generalize resL l = ls at HA HS hrl HRo
    generalize fltE l = fe at HR HRo
    generalize fltK l = fk at HR HRo
    go_wp2_with fail
    refine HR.out.mono ?_
    rintro e w2 ⟨hO2, hb2⟩
    obtain ⟨B, cp2, rfl, hB, _⟩ := HRo.out _ _ _ hO2
    have h12 := bUp (bBox w1 _) hb2
    have f1 := (Blk.new w1 #[.int .i64 fe, .int .i64 fk] 26).keep hb2
    have HB := Lib.hid hB
    have HA2 := Lib.hid (HA.out.keep h12)
    have HE2 := Lib.hid (HE.out.keep (bUp H1.out h12))
    have H2 := Lib.hid (bUp H1.out h12)
    clear hO2 hB hb2 h12 HR HRo HP
    have f1' := f1.alloc (.cells #[.int .i64 fe, .int .i64 fk] 26)
    have f2' := Blk.new w2 #[.int .i64 fe, .int .i64 fk] 26
    have HSm := Lib.hid (rfSame 0 ls A B cp cp2 (w2.alloc (.cells #[.int .i64 fe, .int .i64 fk] 26)) (HA2.out.keep (bBox _ _)) (by rw [shiftL_zero]; exact HB.out.keep (bBox _ _)) (by omega) (by omega) (fun d hd => by have := (HS.out d hd).num; omega) (fun d hd => by have := (HS.out d hd).cnt; omega))
    have F1 := Lib.hid f1'
    have F2 := Lib.hid f2'
    clear f1 f1' f2'
    go_wp2_with fail
    refine HSm.out.mono ?_
    rintro e w3 ⟨rfl, hb3⟩
    have a1 := (F1.out.keep hb3).cell 0
    have a2 := (F1.out.keep hb3).cell 1
    have a3 := (F2.out.keep hb3).cell 0
    have a4 := (F2.out.keep hb3).cell 1
    have h23 := bUp (bBox w2 _) hb3
    have Hb3 := Lib.hid hb3
    clear hb3
    go_wp2_with fail
    refine (lnAlive _ (HE2.out.keep h23)).mono ?_
    rintro e w4 ⟨rfl, hb4⟩
    go_wp2_with fail
    go_ret
    exact ⟨rfl, bUp (bUp H2.out h23) hb4⟩
  · have hd : decide ((2000 : Int) < l.length) = true := decide_eq_true (by omega)
    go_enter Tryd.func3, Tryd.ntmps3
    go_wp2_with fail
    refine (lnAlive _ HE.out).mono ?_
    rintro e w1 ⟨rfl, hb1⟩
    go_wp2_with fail
    go_ret
    exact ⟨rfl, hb1⟩
end Go.Proofs.YtafmdeipcepaiaaDoor
