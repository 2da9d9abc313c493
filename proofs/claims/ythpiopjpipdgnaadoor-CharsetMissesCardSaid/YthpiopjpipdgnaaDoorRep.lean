/- slices.Repeat([]int{-1}, 256) -/
import Derived.Test.YthpiopjpipdgnaaDoorShelf
import Derived.Test.YthpiopjpipdgnaaDoorBase
import Derived.Laws.CopyOwn
import Derived.Laws.MakeOwn
import Derived.Deep.RegionLaw
import Derived.Outline
namespace Go.Proofs.YthpiopjpipdgnaaDoor
open Go.RowKit Go.Sort

/-- n times -1, then zeros, 256 in all -/
def repC (n : Nat) : List Value := List.replicate n (.int .i64 (-1)) ++ List.replicate (256 - n) (.int .i64 0)
theorem repC_len {n : Nat} (h : n ≤ 256) : (repC n).length = 256 := by simp [repC]; omega
theorem infoInt : (Tryd.prog.info? 3).map (fun i => (i.zero, i.size, i.bytes)) = some (some (.int .i64 0), 1, 8) := by kernel_rfl
theorem sizeInt : (Tryd.prog.info? 3).map (·.size) = some 1 := by kernel_rfl

theorem made_one (z : Value) (n : Nat) : madeCells #[z] n = (List.replicate n z).toArray := by
  unfold madeCells
  apply Array.ext
  · simp
  · intro i h1 h2
    simp [Nat.mod_one]
theorem made_repC : madeCells #[.int .i64 0] 256 = (repC 0).toArray := made_one _ 256
theorem make256 (w : World) : (Instr.makeSlice 22 (.int .i64 256) (.int .i64 256)).run Tryd.prog w = .ok (.slice (some ⟨w.heap.size, 0, none⟩) 256 256) (w.alloc (.cells (repC 0).toArray 3)) := by
  obtain ⟨i0, hi, hz0, hz1, hz2⟩ := info_parts infoInt
  have := run_make (P := Tryd.prog) w 22 3 i0 _ Tryd.underlying22 hi hz0 .i64 .i64 256 256 (by omega) (by omega) (by rw [hz2]; omega) (by omega)
  rw [this, hz1, ← made_repC]
  rfl
theorem splice_repC {n : Nat} (h1 : n ≤ 256) (h2 : 1 ≤ n) : splice (repC n) n (List.replicate (min n (256 - n)) (.int .i64 (-1))) = repC (n + min n (256 - n)) := by
  unfold splice repC
  rw [List.take_left' (by simp), List.length_replicate, List.drop_append, List.drop_of_length_le (by simp)]
  simp only [List.length_replicate, List.nil_append, List.drop_replicate]
  rw [← List.append_assoc, List.replicate_append_replicate]
  congr 2
  omega

theorem copyStep {n : Nat} (h1 : 1 ≤ n) (h2 : n < 256) (W : World) (g : Nat) (hg : W.heap[g]? = some (.cells (repC n).toArray 3 (0, 0))) :
    ∃ (m : Nat) (w4 : World), 1 ≤ m ∧ n + m ≤ 256 ∧ (Builtin.copy_ #[22, 22] 3 #[.slice (some ⟨g, n, none⟩) (256 - n) (256 - n), .slice (some ⟨g, 0, none⟩) n 256]).run Tryd.prog W = .ok (.int .i64 m) w4 ∧
      Hid (w4.heap[g]? = some (.cells (repC (n + m)).toArray 3 (0, 0))) ∧ ∀ B w0, Below B w0 W → B ≤ g → Below B w0 w4 := by
  have hmin : (List.replicate (min n (256 - n)) (Value.int .i64 (-1))).length = min n (256 - n) := by simp
  have hsrc : ∀ (j : Nat) v, (List.replicate (min n (256 - n)) (Value.int .i64 (-1)))[j]? = some v → W.cell? ((⟨g, 0, none⟩ : Addr).add j) = some v := by
    intro j v hj
    obtain ⟨hjl, hjv⟩ := List.getElem?_eq_some_iff.1 hj
    have hjn : j < n := by
      have : j < min n (256 - n) := by simpa using hjl
      omega
    have hv : v = .int .i64 (-1) := by rw [← hjv]; simp
    rw [hv, Go.WideShapes.add_plain, Lib.cell_of_heap hg]
    simp [repC, List.getElem?_append, hjn]
  have hone : ∀ v ∈ List.replicate (min n (256 - n)) (Value.int .i64 (-1)), v.oneCell' = true := by intro v hv; rw [List.eq_of_mem_replicate hv]; rfl
  have hrun := run_copy_row (P := Tryd.prog) W 22 22 3 3 g n (256 - n) (256 - n) ⟨g, 0, none⟩ n 256 (repC n).toArray 3 _ Tryd.underlying22 sizeInt hg (by rw [hmin]) hsrc (by simp only [List.size_toArray]; rw [repC_len (by omega), hmin]; omega) hone
  refine ⟨min n (256 - n), _, by omega, by omega, hrun.trans (by rw [hmin]; rfl), Lib.hid ?_, fun B w0 hb hB => below_setRow hb hB _⟩
  rw [← splice_repC (by omega) h1]
  rw [setRow_heap W g _ _ 3 (0, 0) hg]
  simp [splice]

set_option maxHeartbeats 1000000 in
set_option maxRecDepth 100000 in
theorem repeat256 (b : Nat) (w : World) (hb : b < w.heap.size) (hc : w.cell? ⟨b, 0, none⟩ = some (.int .i64 (-1))) :
    Calls Tryd.prog 39 #[.slice (some ⟨b, 0, none⟩) 1 1, .int .i64 256] w fun e w' => e = .returned (.slice (some ⟨w.heap.size, 0, none⟩) 256 256) ∧ Hid (w'.heap[w.heap.size]? = some (.cells (repC 256).toArray 3 (0, 0))) ∧ Below w.heap.size w w' := by
  go_enter Tryd.func39, Tryd.ntmps39
  go_wp2_with fail
  have hm := Tryd.bits_Mul 1 256 (by omega) (by omega) w
  refine hm.mono ?_
  rintro e w' ⟨rfl, hw'⟩
  obtain rfl : w = w' := hw'.symm
  have hmk := make256
  generalize hr0 : repC 0 = r0 at hmk
  clear hm
  have Hr0 := Lib.hid hr0
  clear hr0
  go_wp2_with (with_reducible refine wpList_copy_splice rfl (.tmp 31) (.tmp 32) 22 22 rfl 3 Tryd.underlying22 sizeInt (some ⟨w.heap.size, 0, none⟩) (some ⟨b, 0, none⟩) 256 256 1 1 rfl rfl w.heap.size 0 r0 3 ?hg [.int .i64 (-1)] rfl ?hpos ?hfit ?h1 w.heap.size w ?hb (Nat.le_refl _) ?_)
  case hg => exact heap_alloc_new w _
  case hpos =>
    intro j v hj
    match j, hj with
    | 0, hj => simp at hj; subst hj; exact hc
  case hfit => rw [← Hr0.out, repC_len (by omega)]; decide
  case h1 => intro v hv; simp at hv; subst hv; rfl
  case hb => exact bBox _ _
  intro w1 hg1 hb1
  have hg1' : Hid (w1.heap[w.heap.size]? = some (.cells (repC 1).toArray 3 (0, 0))) := Lib.hid (by have := hg1.out; rw [← Hr0.out] at this; exact this)
  clear hg1
  go_wp2_with fail
  go_loopw [8] (fun x wr => ∃ n : Nat, 1 ≤ n ∧ n ≤ 256 ∧ x = .int .i64 n ∧ Hid (wr.heap[w.heap.size]? = some (.cells (repC n).toArray 3 (0, 0))) ∧ Below w.heap.size w wr) (fun x _ => 256 - (intOf x).toNat)
  case atStart => exact ⟨1, by omega, by omega, rfl, hg1', hb1⟩
  case round =>
    obtain ⟨n, h1, h2, rfl, hg, hbel⟩ := hrel
    by_cases hlt : n < 256
    · have hn0 : ¬ (256 = n) := by omega
      have hni : (n : Int) ≤ 256 := by omega
      obtain ⟨m, w4, hm1, hm2, hrun, hg4, hb4⟩ := copyStep h1 hlt wr.drew w.heap.size hg.out
      have hb5 := hb4 w.heap.size w hbel.drew (Nat.le_refl _)
      clear hb4
      go_wp2_with fail
      go_region
      go_wp2_with fail
      go_roundw
      case rel => exact ⟨n + m, by omega, by omega, by go_num, hg4, hb5⟩
      case measure => simp [intOf]; omega
    · obtain rfl : n = 256 := by omega
      go_wp2_with fail
      go_ret
      exact ⟨rfl, hg, hbel⟩
end Go.Proofs.YthpiopjpipdgnaaDoor
