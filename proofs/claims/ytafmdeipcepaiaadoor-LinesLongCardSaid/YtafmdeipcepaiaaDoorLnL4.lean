/- LinesLong -/
import Derived.Test.YtafmdeipcepaiaaDoorLnL2
namespace Go.Proofs.YtafmdeipcepaiaaDoor
open Go.RowKit Go.Shelf Go.Sort

set_option maxHeartbeats 8000000 in
set_option maxRecDepth 100000 in
theorem lnParseLong (l : List UInt8) (w : World) (hl : 65536 < l.length) :
    Calls Tryd.prog 11 #[.string ⟨l.toArray⟩] w fun e w' => e = .returned (.tuple #[.slice none 0 0, .agg #[.int .i64 2, .int .i64 0]]) ∧ Below w.heap.size w w' := by
  have hgd : decide ((65536 : Int) < l.length) = true := decide_eq_true (by omega)
  go_enter Tryd.func11, Tryd.ntmps11
  go_wp2_with fail
  refine bodyPost_ret (v := .tuple #[.slice none 0 0, .agg #[.int .i64 2, .int .i64 0]]) (by simp [results, Tryd.results11, go_sem]) rfl ?_
  exact ⟨rfl, bUp (bBox w _) (bBox _ _)⟩
theorem splitL_blank (n : Nat) : splitL 10 (List.replicate n 32) = [List.replicate n 32] := by
  have : ∀ n, ¬ (10 : UInt8) ∈ List.replicate n (32 : UInt8) := fun n h => by have := List.eq_of_mem_replicate h; exact absurd this (by decide)
  cases h : cutB 10 (List.replicate n 32) with
  | none => rw [splitL_cut, h]
  | some q => have h1 := cutB_none.2 (this n); rw [h1] at h; cases h
theorem blank_res {n : Nat} (hn : n ≤ 65536) : fltE (List.replicate n 32) = 0 ∧ fltK (List.replicate n 32) = 0 ∧ resL (List.replicate n 32) = [] := by
  have hl : (List.replicate n (32 : UInt8)).length ≤ 65536 := by simp [hn]
  have hq : lineQ (1, List.replicate n 32) = some none := by
    unfold lineQ commentP
    have h1 : cutB 35 (List.replicate n (32 : UInt8)) = none := cutB_none.2 (fun h => by have := List.eq_of_mem_replicate h; exact absurd this (by decide))
    simp only [h1]
    rw [if_pos]
    unfold trimL trimRgt trimLft
    have : ∀ n, (List.replicate n (32 : UInt8)).dropWhile isB = [] := fun n => by
      induction n with
      | zero => rfl
      | succ n ih => rw [List.replicate_succ, List.dropWhile_cons, if_pos (by decide), ih]
    rw [List.reverse_replicate, this]
    rfl
  unfold fltE fltK resL
  rw [badN_of hl, goodN_of hl]
  unfold badN goodN badP goodP
  rw [splitL_blank]
  simp [numP, hq]
def spc (n k : Nat) : List Value := List.replicate k (.int .u8 32) ++ List.replicate (n - k) (.int .u8 0)
theorem spc_set {n k : Nat} (hk : k < n) : (spc n k).toArray.setIfInBounds k (.int .u8 32) = (spc n (k + 1)).toArray := by
  rw [List.setIfInBounds_toArray]
  congr 1
  unfold spc
  rw [List.set_append_right _ _ (by simp), List.length_replicate, Nat.sub_self, show n - k = (n - (k + 1)) + 1 by omega, List.replicate_succ, List.set_cons_zero, List.replicate_succ', List.append_assoc, List.singleton_append]
theorem spc_at {n k : Nat} (hk : k < n) : ∃ v, (spc n k).toArray[k]? = some v := by
  unfold spc
  rw [List.getElem?_toArray, List.getElem?_append_right (by simp), List.length_replicate, Nat.sub_self, show n - k = (n - (k + 1)) + 1 by omega, List.replicate_succ]
  exact ⟨_, rfl⟩
theorem infoU8 : (Tryd.prog.info? 5).map (fun i => (i.zero, i.size, i.bytes)) = some (some (.int .u8 0), 1, 1) := by kernel_rfl
theorem makeU8 (n : Nat) (hn : n ≤ 100000) (w : World) : (Instr.makeSlice 37 (.int .i64 n) (.int .i64 n)).run Tryd.prog w = .ok (.slice (some ⟨w.heap.size, 0, none⟩) n n) (w.alloc (.cells (spc n 0).toArray 5)) := by
  obtain ⟨i0, hi, hz0, hz1, hz2⟩ := info_parts infoU8
  have := run_make (P := Tryd.prog) w 37 5 i0 _ Tryd.underlying37 hi hz0 .i64 .i64 n n (by omega) (by omega) (by rw [hz2]; omega) (by omega)
  rw [this, hz1]
  simp only [Int.toNat_natCast, Nat.mul_one, Value.cells]
  rw [show madeCells #[.int .u8 0] n = (List.replicate n (.int .u8 0)).toArray from by
    unfold madeCells
    apply Array.ext
    · simp
    · intro i h1 h2
      simp [Nat.mod_one]]
  simp [spc]
theorem convSp {n : Nat} {W : World} {b : Nat} (h : Blk W b (spc n n).toArray 5) : (convert 37 9 (.slice (some ⟨b, 0, none⟩) n n)).run Tryd.prog W = .ok (.string ⟨(List.replicate n 32).toArray⟩) W := by
  have := run_convert_bytes_back (P := Tryd.prog) W 37 9 5 ⟨b, 0, none⟩ n (List.replicate n 32) Tryd.underlying37 Tryd.underlying5 Tryd.underlying9 (fun j hj => ?_)
  · simpa using this
  · rw [Go.WideShapes.add_plain, h.cell]
    simp at hj
    simp [spc, hj]

set_option maxHeartbeats 8000000 in
set_option maxRecDepth 100000 in
theorem lawLLong (x : Int) (w : World) (h0 : 0 ≤ x) (h1 : x ≤ 255) (hE : Env w) :
    Calls Tryd.prog 7 #[.int .u8 x] w fun e w' => e = .returned (.bool true) ∧ Below w.heap.size w w' := by
  obtain ⟨n, hn⟩ : ∃ n : Nat, (65536 : Int) + x = n := ⟨(65536 + x).toNat, by omega⟩
  have hw1 : IntKind.i64.wrap x = x := IntWalk.i64_in x (by omega)
  have hw2 : IntKind.i64.wrap ((65536 : Int) + x) = n := by rw [hn]; exact IntWalk.i64_in n (by omega)
  have hmk := fun w' => makeU8 n (by omega) w'
  have hn1 : n ≤ 100000 := by omega
  have HE := Lib.hid hE
  have Hn := Lib.hid hn
  clear hE hn
  go_enter Tryd.func7, Tryd.ntmps7
  go_wp2_with fail
  go_loopw [4] (fun i wr => ∃ k : Nat, k ≤ n ∧ i = .int .i64 k ∧ Hid (Blk wr w.heap.size (spc n k).toArray 5) ∧ Below w.heap.size w wr) (fun i _ => n - (intOf i).toNat)
  case atStart => exact ⟨0, Nat.zero_le _, rfl, Lib.hid (Blk.new w _ _), bBox w _⟩
  case round =>
    obtain ⟨k, hk, rfl, HB, hbr⟩ := hrel
    by_cases hlt : k < n
    · obtain ⟨v, hv⟩ := spc_at hlt
      have a1 : wr.cell? ⟨w.heap.size, k, none⟩ = some v := (HB.out.cell k).trans hv
      have f1 := HB.out.frozen k
      have hki : (k : Int) < n := by omega
      clear hv
      go_wp2_with fail
      go_roundw
      case rel => exact ⟨k + 1, by omega, by go_num, Lib.hid (by rw [← spc_set hlt]; exact HB.out.set (i := k) _), hbr.setCell (p := ⟨w.heap.size, k, none⟩) (Nat.le_refl _) _⟩
      case measure => simp [intOf]; omega
    · obtain rfl : k = n := by omega
      have hki : ¬ (k : Int) < k := by omega
      have hcv := convSp HB.out
      have hl : (List.replicate k (32 : UInt8)).length = k := by simp
      by_cases hx : 0 < x
      · have hP := Lib.hid (lnParseLong (List.replicate k 32) wr (by rw [hl]; have := Hn.out; omega))
        generalize List.replicate k (32 : UInt8) = t at hcv hP
        clear hl
        go_wp2_with fail
        refine hP.out.mono ?_
        rintro e w2 ⟨rfl, hb2⟩
        have h02 := hbr.trans (hb2.mono hbr.size)
        go_wp2_with fail
        refine (lnAlive _ (HE.out.keep (bUp h02 (bBox _ _)))).mono ?_
        rintro e w3 ⟨rfl, hb3⟩
        go_wp2_with fail
        go_ret
        exact ⟨rfl, bUp (bUp h02 (bBox _ _)) hb3⟩
      · have hk6 : k ≤ 65536 := by have := Hn.out; omega
        have hP := Lib.hid (lnParse (List.replicate k 32) wr (HE.out.keep hbr) (by rw [hl]; exact hk6))
        obtain ⟨j1, j2, j3⟩ := blank_res hk6
        generalize List.replicate k (32 : UInt8) = t at hcv hP j1 j2 j3
        clear hl
        go_wp2_with fail
        refine hP.out.mono ?_
        rintro e w2 ⟨hO, hb2⟩
        obtain ⟨A, ca, rfl, _, _⟩ := hO.out
        have h02 := hbr.trans (hb2.mono hbr.size)
        rw [j3, j1, j2]
        go_wp2_with fail
        refine (lnAlive _ (HE.out.keep (bUp h02 (bBox _ _)))).mono ?_
        rintro e w3 ⟨rfl, hb3⟩
        go_wp2_with fail
        go_ret
        exact ⟨rfl, bUp (bUp h02 (bBox _ _)) hb3⟩
end Go.Proofs.YtafmdeipcepaiaaDoor
