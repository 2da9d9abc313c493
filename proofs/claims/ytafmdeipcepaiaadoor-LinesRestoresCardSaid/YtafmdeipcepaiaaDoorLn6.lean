/- lines.numbered and its iterator -/
import Derived.Test.YtafmdeipcepaiaaDoorLn5
import Derived.Test.YtafmdeipcepaiaaDoorRf
namespace Go.Proofs.YtafmdeipcepaiaaDoor
open Go.RowKit Go.Shelf Go.Sort
attribute [local go_sem] Oper.semAt_some

/-- a numbered line -/
abbrev NL := { q : Nat × List UInt8 // q.1 ≤ 65537 ∧ q.2.length ≤ 65536 }
def mkNL (k : Nat) (p : List UInt8) : NL := if h : k ≤ 65537 ∧ p.length ≤ 65536 then ⟨(k, p), h⟩ else ⟨(0, []), by simp⟩
theorem mkNL_of {k : Nat} {p : List UInt8} (h1 : k ≤ 65537) (h2 : p.length ≤ 65536) : mkNL k p = ⟨(k, p), ⟨h1, h2⟩⟩ := by simp [mkNL, h1, h2]
def enL (k : Nat) : List (List UInt8) → List NL
  | [] => []
  | p :: ps => mkNL k p :: enL (k + 1) ps
theorem enL_length : ∀ (k : Nat) (ps : List (List UInt8)), (enL k ps).length = ps.length
  | _, [] => rfl
  | k, _ :: ps => by simp [enL, enL_length (k + 1) ps]
theorem enL_cut {k : Nat} {l d r : List UInt8} (h : cutB 10 l = some (d, r)) : enL k (splitL 10 l) = mkNL k d :: enL (k + 1) (splitL 10 r) := by rw [splitL_cut, h]; rfl
theorem enL_last {k : Nat} {l : List UInt8} (h : cutB 10 l = none) : enL k (splitL 10 l) = [mkNL k l] := by rw [splitL_cut, h]; rfl

theorem lnNumbered (l : List UInt8) (w : World) :
    Calls Tryd.prog 21 #[.string ⟨l.toArray⟩] w fun e w' => e = .returned (.func (.func 40) #[] #[.pointer (some ⟨w.heap.size, 0, none⟩)]) ∧ w.alloc (.cells #[.string ⟨l.toArray⟩] 9) = w' := by
  go_enter Tryd.func21, Tryd.ntmps21
  go_wp2
  go_ret
  exact ⟨rfl, rfl⟩

set_option maxHeartbeats 2000000 in
set_option maxRecDepth 100000 in
theorem numbered1 (n : Nat) (hn : 1 ≤ n) (Bx : Nat) (l0 : List UInt8) (w0 w : World) (hbx : Blk w Bx #[.string ⟨l0.toArray⟩] 9)
    (hE : Env w0) (hb0 : Below w0.heap.size w0 w) (hl : l0.length ≤ 65536) :
    SeqStopsK Fence.wide n Tryd.prog 40 #[.pointer (some ⟨Bx, 0, none⟩)] (fun p : NL => #[Value.int .i64 p.1.1, Value.string ⟨p.1.2.toArray⟩]) (KpB w0.heap.size Bx) (fun xs => xs = enL 1 (splitL 10 l0)) (fun pre => ∃ post, enL 1 (splitL 10 l0) = pre ++ post) (splitL 10 l0).length w := by
  intro l J Jx W hW hJ hJx hY h0
  have hc0 : W.cell? ⟨Bx, 0, none⟩ = some (.string ⟨l0.toArray⟩) := (hbx.keep hW).cell 0
  have hbW : Below w0.heap.size w0 W := hb0.trans (hW.mono hb0.size)
  have HE := Lib.hid hE
  have HJ := Lib.hid hJ
  have HY := Lib.hid hY
  clear hE hJ hY hJx hbx
  refine callsIn_of_wp Tryd.func40 rfl trivial ?_ rfl
  simp only [Tryd.ntmps40, List.size_toArray, List.length_cons, List.length_nil, Nat.reduceAdd, Nat.reduceSub, Array.replicate_succ, Array.replicate_zero, List.push_toArray, List.append_toArray, List.nil_append, List.cons_append]
  gi_wp2
  gi_loopw [3, 4] (fun r i wr => ∃ (m : Nat) (done : List NL) (rest : List UInt8), m = done.length ∧ rest.length + m ≤ l0.length ∧ r = .string ⟨rest.toArray⟩ ∧ i = .int .i64 (m + 1) ∧ Hid (enL 1 (splitL 10 l0) = done ++ enL (m + 1) (splitL 10 rest)) ∧ J done wr ∧ Below w0.heap.size w0 wr) (fun _ i _ => l0.length + 2 - (intOf i).toNat)
  case atStart => exact ⟨0, [], l0, rfl, by omega, rfl, rfl, Lib.hid rfl, h0, hbW⟩
  case round =>
    obtain ⟨m, done, rest, hm, hle, rfl, rfl, HS, hJs, hbr⟩ := hrel
    cases hc : cutB 10 rest with
    | some p =>
      obtain ⟨d, r⟩ := p
      have HC := Lib.hid (cutYes hc wr (HE.out.keep hbr) (by omega))
      have hlen := congrArg List.length (cutB_some hc).1
      simp only [List.length_append, List.length_cons] at hlen
      obtain ⟨hq, hx⟩ : ∃ hq, mkNL (m + 1) d = ⟨(m + 1, d), hq⟩ := ⟨⟨by simp only; omega, by simp only; omega⟩, mkNL_of (by omega) (by omega)⟩
      have HS' := Lib.hid (HS.out.trans (congrArg (done ++ ·) (enL_cut (k := m + 1) hc)))
      have hlt : done.length < (splitL 10 l0).length := by
        have := congrArg List.length HS'.out
        rw [enL_length, List.length_append, List.length_cons] at this
        omega
      have hrl : r.length + (m + 1) ≤ l0.length := by omega
      have hml : m < 65536 := by omega
      have Hc := Lib.hid hc
      have Hlen := Lib.hid hlen
      have Hle := Lib.hid hle
      have Hm := Lib.hid hm
      have Hx := Lib.hid hx
      clear hc hlen hle hm hx
      gi_wp2_with fail
      refine ⟨trivial, (callsIn_wide.2 HC.out).mono ?_⟩
      rintro e w1 ⟨rfl, hb1⟩
      have hJ1 := HJ.out _ wr w1 none hJs (grownBy_of_below hb1) (fun r e => by cases e)
      obtain ⟨fn, tmps, assign, body, hy, hR⟩ := HY.out _ (mkNL (m + 1) d) w1 hJ1 hlt
      rw [Hx.out] at hy
      dsimp only at hy
      rw [show ((m + 1 : Nat) : Int) = (m : Int) + 1 from rfl] at hy
      gi_wp2_with fail
      refine hR.mono ?_
      rintro e W3 (⟨rfl, hJ3, hk3⟩ | ⟨rfl, hJx3⟩)
      · gi_wp2
        go_roundw
        case rel => exact ⟨m + 1, _, r, by rw [List.length_append, ← Hm.out]; rfl, by omega, rfl, by go_num, Lib.hid (by rw [HS'.out, List.append_assoc]; rfl), hJ3, (hbr.trans (hb1.mono hbr.size)).trans hk3.1⟩
        case measure => simp [intOf]; omega
      · gi_wp2
        refine bodyPost_ret (results_none rfl _ _ _) rfl ?_
        exact ⟨⟨_, rfl⟩, .inr ⟨_, ⟨_, by rw [HS'.out, List.append_assoc]; rfl⟩, hJx3⟩⟩
    | none =>
      have HC := Lib.hid (cutNo hc wr (HE.out.keep hbr) (by omega))
      obtain ⟨hq, hx⟩ : ∃ hq, mkNL (m + 1) rest = ⟨(m + 1, rest), hq⟩ := ⟨⟨by simp only; omega, by simp only; omega⟩, mkNL_of (by omega) (by omega)⟩
      have HS' := Lib.hid (HS.out.trans (congrArg (done ++ ·) (enL_last (k := m + 1) hc)))
      have hlt : done.length < (splitL 10 l0).length := by
        have := congrArg List.length HS'.out
        rw [enL_length, List.length_append, List.length_cons] at this
        omega
      have hml : m ≤ 65536 := by omega
      have Hc := Lib.hid hc
      have Hle := Lib.hid hle
      have Hm := Lib.hid hm
      have Hx := Lib.hid hx
      clear hc hle hm hx
      gi_wp2_with fail
      refine ⟨trivial, (callsIn_wide.2 HC.out).mono ?_⟩
      rintro e w1 ⟨rfl, hb1⟩
      have hJ1 := HJ.out _ wr w1 none hJs (grownBy_of_below hb1) (fun r e => by cases e)
      obtain ⟨fn, tmps, assign, body, hy, hR⟩ := HY.out _ (mkNL (m + 1) rest) w1 hJ1 hlt
      rw [Hx.out] at hy
      dsimp only at hy
      rw [show ((m + 1 : Nat) : Int) = (m : Int) + 1 from rfl] at hy
      gi_wp2_with fail
      refine hR.mono ?_
      rintro e W3 (⟨rfl, hJ3, hk3⟩ | ⟨rfl, hJx3⟩)
      · gi_wp2
        refine bodyPost_ret (results_none rfl _ _ _) rfl ?_
        exact ⟨⟨_, rfl⟩, .inl ⟨_, rfl, by rw [HS'.out]; exact hJ3⟩⟩
      · gi_wp2
        refine bodyPost_ret (results_none rfl _ _ _) rfl ?_
        exact ⟨⟨_, rfl⟩, .inr ⟨_, ⟨[], by rw [HS'.out, List.append_nil]⟩, hJx3⟩⟩
end Go.Proofs.YtafmdeipcepaiaaDoor
