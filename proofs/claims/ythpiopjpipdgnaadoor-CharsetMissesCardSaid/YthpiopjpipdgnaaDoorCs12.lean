/- ref06: digit, Split -/
import Derived.Test.YthpiopjpipdgnaaDoorCs7
import Derived.Test.YthpiopjpipdgnaaDoorCp2
import Derived.Deep.AppendLies
import Derived.Test.YthpiopjpipdgnaaDoorBase2
namespace Go.Proofs.YthpiopjpipdgnaaDoor
open Go.RowKit Go.Sort

theorem rf6Digit (b : Int) (w : World) :
    Calls Tryd.prog 60 #[.int .u8 b] w fun e w' => e = .returned (.int .i64 (hexVal b)) ∧ w = w' := by
  go_enter Tryd.func60, Tryd.ntmps60
  go_wp2
  go_loop [3] (fun i => ∃ k : Nat, k ≤ 16 ∧ i = .int .i64 k ∧ Hid (hexVal b = -1 ∨ (k : Int) ≤ hexVal b)) (fun i => 16 - (intOf i).toNat)
  case atStart => exact ⟨0, by omega, rfl, Lib.hid (by have := hexVal_le b; omega)⟩
  case round =>
    obtain ⟨k, hk, rfl, HB⟩ := hrel
    by_cases hlt : k < 16
    · have hc := digIdx k hlt
      by_cases he : (hexC k : Int) = b
      · have he' : ((hexC k : Int) == b) = true := by simpa using he
        have He := Lib.hid he
        clear he
        go_wp2
        go_ret
        exact ⟨ret_int (hexVal_hit hlt He.out).symm, rfl⟩
      · have he' : ((hexC k : Int) == b) = false := by simpa using he
        have He := Lib.hid he
        clear he
        go_wp2
        go_round
        case rel => exact ⟨k + 1, by omega, by go_num, hexVal_miss hlt He.out HB.out⟩
        case measure => simp [intOf]; omega
    · go_wp2
      go_ret
      exact ⟨ret_int (hexVal_end (by have := HB.out; omega)).symm, rfl⟩

/-- the slice at A reads as the strings ps -/
def StrsAt (w : World) (A : Option Addr) (ps : List (List UInt8)) : Prop :=
  0 < ps.length → ∃ b off, A = some ⟨b, off, none⟩ ∧ b < w.heap.size ∧ ∀ j, j < ps.length → w.cell? ⟨b, off + j, none⟩ = some (.string ⟨(piece ps j).toArray⟩)
theorem StrsAt.keep {w w' : World} {A : Option Addr} {ps : List (List UInt8)} (h : StrsAt w A ps) (hb : Below w.heap.size w w') : StrsAt w' A ps := by
  intro hz
  obtain ⟨b, off, e, hlt, hc⟩ := h hz
  exact ⟨b, off, e, Nat.lt_of_lt_of_le hlt hb.size, fun j hj => (hb.cell (p := ⟨b, off + j, none⟩) hlt).trans (hc j hj)⟩
def strVals (ps : List (List UInt8)) : List Value := ps.map fun p => Value.string ⟨p.toArray⟩
theorem strVals_snoc (ps : List (List UInt8)) (p : List UInt8) : strVals ps ++ [.string ⟨p.toArray⟩] = strVals (ps ++ [p]) := by simp [strVals]
theorem StrsAt.of_own {w : World} {base : Nat} {A : Option Addr} {c : Nat} {ps : List (List UInt8)} (h : w.ownsRow base 9 1 (.slice A ps.length c) ps.length (strVals ps)) : StrsAt w A ps := by
  intro hn
  obtain ⟨g, cap, hv, _, hlt⟩ := h.form hn
  have hA : A = some ⟨g, 0, none⟩ := by injection hv
  subst hA
  refine ⟨g, 0, rfl, hlt, fun j hj => ?_⟩
  have := h.cells (g := g) rfl j (.string ⟨(piece ps j).toArray⟩) (by simp [strVals, piece, hj])
  rwa [Go.WideShapes.add_plain] at this

def glue (s : List UInt8) : List (List UInt8) → List (List UInt8)
  | p :: ps => (s ++ p) :: ps
  | [] => []
theorem glue_nil (ps : List (List UInt8)) : glue [] ps = ps := by cases ps <;> rfl
theorem split_hit {l : List UInt8} {j k : Nat} {c : UInt8} {done : List (List UInt8)} (hk : k < l.length) (hb : l[k] = c) (h : splitL c l = done ++ glue (seg l j k) (splitL c (l.drop k))) :
    splitL c l = (done ++ [seg l j k]) ++ glue (seg l (k + 1) (k + 1)) (splitL c (l.drop (k + 1))) := by
  rw [h, bytes_drop hk, hb, splitL_hit, seg_self, glue_nil]
  simp [glue]
theorem split_miss {l : List UInt8} {j k : Nat} {c : UInt8} {done : List (List UInt8)} (hj : j ≤ k) (hk : k < l.length) (hb : ¬ l[k] = c) (h : splitL c l = done ++ glue (seg l j k) (splitL c (l.drop k))) :
    splitL c l = done ++ glue (seg l j (k + 1)) (splitL c (l.drop (k + 1))) := by
  rw [h, bytes_drop hk, splitL_miss hb, seg_snoc hj hk]
  cases hs : splitL c (l.drop (k + 1)) with
  | nil => exact absurd hs (splitL_ne _ _)
  | cons p ps => simp [glue]
theorem split_end {l : List UInt8} {j : Nat} {c : UInt8} {done : List (List UInt8)} (h : splitL c l = done ++ glue (seg l j l.length) (splitL c (l.drop l.length))) : splitL c l = done ++ [seg l j l.length] := by
  rw [h, List.drop_of_length_le (Nat.le_refl _)]
  simp [splitL, glue]
theorem infoStr : (Tryd.prog.info? 9).map (fun i => (i.zero, i.size, i.bytes)) = some (some (.string ByteArray.empty), 1, 16) := by kernel_rfl

set_option maxHeartbeats 1000000 in
set_option maxRecDepth 100000 in
theorem rfSplit (l : List UInt8) (w : World) (hl : l.length ≤ 65536) :
    Calls Tryd.prog 22 #[.string ⟨l.toArray⟩] w fun e w' => (∃ A c, e = .returned (.slice A (splitL 10 l).length c) ∧ StrsAt w' A (splitL 10 l) ∧ ∀ b off, A = some ⟨b, off, none⟩ → w.heap.size ≤ b) ∧ Below w.heap.size w w' := by
  obtain ⟨i0, hi, hz0, hz1, hz2⟩ := info_parts infoStr
  go_enter Tryd.func22, Tryd.ntmps22
  go_wp2_with fail
  go_loopw [3, 4, 5] (fun v f i wr => ∃ (j k : Nat) (done : List (List UInt8)), j ≤ k ∧ k ≤ l.length ∧ done.length ≤ k ∧ f = .int .i64 j ∧ i = .int .i64 k ∧ Hid (wr.ownsRow w.heap.size 9 1 v done.length (strVals done)) ∧ Hid (splitL 10 l = done ++ glue (seg l j k) (splitL 10 (l.drop k))) ∧ Below w.heap.size w wr) (fun _ _ i _ => l.length - (intOf i).toNat)
  case atStart => exact ⟨0, 0, [], by omega, by omega, by simp, rfl, rfl, Lib.hid ⟨by simp [strVals], .inl ⟨rfl, by simp⟩⟩, Lib.hid (by rw [seg_self, glue_nil]; rfl), Below.refl _ _⟩
  case round =>
    obtain ⟨j, k, done, hjk, hk, hdl, rfl, rfl, HO, HS, hbr⟩ := hrel
    by_cases hlt : k < l.length
    · have hbt := btN_lt l k
      by_cases hb : btN l k = 10
      · have hb' : ((btN l k : Int) == 10) = true := by simp; omega
        have hb2 : l[k] = 10 := by
          rw [btN_get hlt] at hb
          exact UInt8.toNat_inj.1 hb
        have HS' := Lib.hid (split_hit hlt hb2 HS.out)
        clear hb2 hb
        go_wp2_with (at_builtin; refine wpList_append_own _ rfl _ _ 40 rfl w.heap.size 9 i0 (.string ByteArray.empty) 1 16 Tryd.underlying40 hi hz0 hz1 hz2 rfl (by decide) _ _ _ rfl (HO.out.alloc _) ⟨wr.heap.size, 0, none⟩ 1 1 [.string ⟨(seg l j k).toArray⟩] rfl rfl ?c1 ?c2 ?c3 ?c4 ?c5 ?_)
        case c1 =>
          intro i u hj
          match i, hj with
          | 0, hj => simp at hj; subst hj; simp [Addr.add]
        case c2 => intro u hu; simp at hu; subst hu; rfl
        case c3 => unfold maxLen; omega
        case c4 => omega
        case c5 => have := hbr.size; simp; omega
        intro v' w2 hown' hgrow _
        rw [strVals_snoc] at hown'
        have HO' := Lib.hid (show w2.ownsRow w.heap.size 9 1 v' (done ++ [seg l j k]).length (strVals (done ++ [seg l j k])) by rw [List.length_append]; exact hown')
        have hb2 : Below w.heap.size w w2 := (hbr.alloc hbr.size _).grown hgrow (by have := hbr.size; simp; omega) (fun q hq => (HO.out.lt q hq).1)
        clear hown' hgrow
        go_wp2_with fail
        go_roundw
        case rel => exact ⟨k + 1, k + 1, _, by omega, by omega, by simp; omega, by go_num, by go_num, HO', HS', hb2⟩
        case measure => simp [intOf]; omega
      · have hb' : ((btN l k : Int) == 10) = false := by simp; omega
        have hb2 : ¬ l[k] = 10 := by
          intro e
          rw [btN_get hlt, e] at hb
          exact hb rfl
        have HS' := Lib.hid (split_miss hjk hlt hb2 HS.out)
        clear hb2 hb
        go_wp2_with fail
        go_roundw
        case rel => exact ⟨j, k + 1, done, by omega, by omega, by omega, rfl, by go_num, HO, HS', hbr⟩
        case measure => simp [intOf]; omega
    · obtain rfl : k = l.length := by omega
      have HS' := Lib.hid (split_end HS.out)
      clear HS
      go_wp2_with (at_builtin; refine wpList_append_own _ rfl _ _ 40 rfl w.heap.size 9 i0 (.string ByteArray.empty) 1 16 Tryd.underlying40 hi hz0 hz1 hz2 rfl (by decide) _ _ _ rfl (HO.out.alloc _) ⟨wr.heap.size, 0, none⟩ 1 1 [.string ⟨(seg l j l.length).toArray⟩] rfl rfl ?c1 ?c2 ?c3 ?c4 ?c5 ?_)
      case c1 =>
        intro i u hj
        match i, hj with
        | 0, hj => simp at hj; subst hj; simp [Addr.add]
      case c2 => intro u hu; simp at hu; subst hu; rfl
      case c3 => unfold maxLen; omega
      case c4 => omega
      case c5 => have := hbr.size; simp; omega
      intro v' w2 hown' hgrow _
      rw [strVals_snoc] at hown'
      have HO' := Lib.hid (show w2.ownsRow w.heap.size 9 1 v' (done ++ [seg l j l.length]).length (strVals (done ++ [seg l j l.length])) by rw [List.length_append]; exact hown')
      have hb2 : Below w.heap.size w w2 := (hbr.alloc hbr.size _).grown hgrow (by have := hbr.size; simp; omega) (fun q hq => (HO.out.lt q hq).1)
      clear hown' hgrow
      go_wp2_with fail
      go_ret
      refine ⟨?_, hb2⟩
      have ho := HO'.out
      rw [← HS'.out] at ho
      obtain ⟨A, c, e⟩ : ∃ A c, v' = .slice A (splitL 10 l).length c := by
        rcases ho.2 with ⟨hv, h0⟩ | ⟨g, cap, cur, hv, _⟩
        · exact absurd h0 (by rw [splitL_length]; omega)
        · exact ⟨_, _, hv⟩
      subst e
      refine ⟨A, c, rfl, StrsAt.of_own ho, fun b off hA => ?_⟩
      obtain ⟨g, cap, hv, hbg, _⟩ := ho.form (by rw [splitL_length]; omega)
      injection hv with hv
      rw [hA] at hv
      injection hv with hv
      injection hv with hv
      omega
end Go.Proofs.YthpiopjpipdgnaaDoor
