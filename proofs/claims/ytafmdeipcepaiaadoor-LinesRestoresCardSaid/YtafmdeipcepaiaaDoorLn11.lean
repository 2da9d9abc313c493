/- Same of the reference, on lists that are equal but for the numbers -/
import Derived.Test.YtafmdeipcepaiaaDoorLn10
import Derived.Lib.QuietBelow
import Derived.BigQuiet
namespace Go.Proofs.YtafmdeipcepaiaaDoor
open Go.RowKit Go.Sort

def shiftL (n : Int) (ls : List LineD) : List LineD := ls.map fun d => { d with num := d.num + n }
theorem shiftL_length (n : Int) (ls : List LineD) : (shiftL n ls).length = ls.length := by simp [shiftL]
theorem shiftL_at (n : Int) {ls : List LineD} {k : Nat} (hk : k < ls.length) : lineAt (shiftL n ls) k = { lineAt ls k with num := (lineAt ls k).num + n } := by simp [lineAt, shiftL, hk]
theorem LinesAt.at_ {w : World} {A : Option Addr} {ls : List LineD} (h : LinesAt w A ls) {k : Nat} (hk : k < ls.length) : ∃ b off, A = some ⟨b, off, none⟩ ∧ b < w.heap.size ∧
    w.cell? ⟨b, off + k * 5, none⟩ = some (.int .i64 (lineAt ls k).num) ∧ w.cell? ⟨b, off + k * 5 + 1, none⟩ = some (.int .i64 (lineAt ls k).lo) ∧ w.cell? ⟨b, off + k * 5 + 2, none⟩ = some (.int .i64 (lineAt ls k).hi) ∧
    (∃ B c, w.cell? ⟨b, off + k * 5 + 3, none⟩ = some (.slice B (lineAt ls k).fields.length c) ∧ StrsAt w B (lineAt ls k).fields) ∧ w.cell? ⟨b, off + k * 5 + 4, none⟩ = some (.string ⟨(lineAt ls k).com.toArray⟩) := by
  obtain ⟨b, off, e, hb, hc⟩ := h (by omega)
  exact ⟨b, off, e, hb, hc k hk⟩

set_option maxHeartbeats 2000000 in
set_option maxRecDepth 100000 in
theorem rfSame (n : Int) (ls : List LineD) (A B : Option Addr) (c1 c2 : Nat) (w : World) (hA : LinesAt w A ls) (hB : LinesAt w B (shiftL n ls)) (hl : ls.length ≤ 100000) (hn : 0 ≤ n ∧ n ≤ 100000) (hnum : ∀ d ∈ ls, 0 ≤ d.num ∧ d.num ≤ 100000) (hfl : ∀ d ∈ ls, d.fields.length ≤ 100000) :
    Calls Tryd.prog 13 #[.slice A ls.length c1, .slice B ls.length c2, .int .i64 n] w fun e w' => e = .returned (.bool true) ∧ Below w.heap.size w w' := by
  have HA := Lib.hid hA
  have HB := Lib.hid hB
  have Hnum := Lib.hid hnum
  have Hfl := Lib.hid hfl
  clear hA hB hnum hfl
  go_enter Tryd.func13, Tryd.ntmps13
  go_wp2_with fail
  go_loopw [7] (fun i wr => ∃ k : Nat, k ≤ ls.length ∧ i = .int .i64 k ∧ Below w.heap.size w wr) (fun i _ => ls.length - (intOf i).toNat)
  case atStart => exact ⟨0, Nat.zero_le _, rfl, Below.refl _ _⟩
  case round =>
    obtain ⟨k, hk, rfl, hbr⟩ := hrel
    by_cases hlt : k < ls.length
    · obtain ⟨b1, o1, rfl, h1, p0, p1, p2, ⟨F1, d1, p3, s1⟩, p4⟩ := (HA.out.keep hbr).at_ hlt
      obtain ⟨b2, o2, rfl, h2, q0, q1, q2, ⟨F2, d2, q3, s2⟩, q4⟩ := (HB.out.keep hbr).at_ (k := k) (by rw [shiftL_length]; exact hlt)
      rw [shiftL_at n hlt] at q0 q1 q2 q3 q4 s2
      dsimp only at q0 q1 q2 q3 q4 s2
      have hm : lineAt ls k ∈ ls := by simp [lineAt, hlt]
      have hnb := Hnum.out _ hm
      have hfb := Hfl.out _ hm
      generalize lineAt ls k = d at p0 p1 p2 p3 p4 q0 q1 q2 q3 q4 s1 s2 hnb hfb
      obtain ⟨num, lo, hi, fs, com⟩ := d
      dsimp only at p0 p1 p2 p3 p4 q0 q1 q2 q3 q4 s1 s2 hnb hfb
      have hki : (k : Int) < ls.length := by omega
      have hnn : (num + n - num != n) = false := by simp; omega
      have HS := Lib.hid (fun dq osq => Calls.regrown_of (w := wr) (d := dq) (os := osq) (rfStrings fs F1 F2 d1 d2 (grow (redrawn wr dq) osq) (s1.keep (below_regrown wr dq osq)) (s2.keep (below_regrown wr dq osq)) (by omega)))
      clear hm s1 s2
      go_wp2_with fail
      have k0 := cell_regrown p0
      have k1 := cell_regrown p1
      have k2 := cell_regrown p2
      have k3 := cell_regrown p3
      have k4 := cell_regrown p4
      have j0 := cell_regrown q0
      have j1 := cell_regrown q1
      have j2 := cell_regrown q2
      have j3 := cell_regrown q3
      have j4 := cell_regrown q4
      refine wp_region_quiet_below (by kernel_rfl) (by kernel_rfl) ?_
      dsimp only [List.append_eq, List.cons_append, List.nil_append]
      repeat (go_big_quiet_step (exact HS.out _ _))
      refine wpQuiet_nil ?_
      rintro _ ⟨⟨dq, osq⟩, rfl⟩
      have hb2 := below_regrown wr dq osq
      generalize grow (redrawn wr dq) osq = w2 at hb2 ⊢
      go_wp2_with fail
      go_roundw
      case rel => exact ⟨k + 1, by omega, by go_num, bUp hbr hb2⟩
      case measure => simp [intOf]; omega
    · obtain rfl : k = ls.length := by omega
      go_wp2_with fail
      go_ret
      exact ⟨rfl, hbr⟩
end Go.Proofs.YtafmdeipcepaiaaDoor
