/- escape.ParseCodes -/
import Derived.Test.YtgkogbjlbcllmaaDoorEs6
import Derived.Test.YtgkogbjlbcllmaaDoorEnv
namespace Go.Proofs.YtgkogbjlbcllmaaDoor
open Go.RowKit Go.Sort

def codesFrom : List (List UInt8) → List Int → List Int × Int
  | [], acc => (acc, 0)
  | p :: ps, acc => match parseCp p with | none => ([], 3) | some c => codesFrom ps (acc ++ [c])
def parseCodesR (s : List UInt8) : List Int × Int := if s = [] then ([], 0) else codesFrom (splitL 32 s) []
def IntsErr (r : List Int × Int) (w : World) (e : Ending) (w' : World) : Prop :=
  ∃ A c, e = .returned (.tuple #[.slice A r.1.length c, .int .i64 r.2]) ∧ IntsAt w' A r.1 ∧ Below w.heap.size w w'
theorem codes_bad {ps : List (List UInt8)} {k : Nat} {acc : List Int} {r : List Int × Int} (hk : k < ps.length) (h : r = codesFrom (ps.drop k) acc) (hp : parseCp (piece ps k) = none) : r = ([], 3) := by
  rw [h, drop_piece hk, codesFrom, hp]
theorem codes_good {ps : List (List UInt8)} {k : Nat} {acc : List Int} {r : List Int × Int} {c : Int} (hk : k < ps.length) (h : r = codesFrom (ps.drop k) acc) (hp : parseCp (piece ps k) = some c) : r = codesFrom (ps.drop (k + 1)) (acc ++ [c]) := by
  rw [h, drop_piece hk, codesFrom, hp]

set_option maxHeartbeats 2000000 in
set_option maxRecDepth 100000 in
theorem esParseCodes (l : List UInt8) (w : World) (hE : Env w) (hl : l.length ≤ 100000) :
    Calls Tryd.prog 15 #[.string ⟨l.toArray⟩] w (IntsErr (parseCodesR l) w) := by
  by_cases he : l = []
  · subst he
    have HV := Lib.hid (show parseCodesR [] = ([], 0) by rfl)
    have HE := Lib.hid hE
    clear hE
    go_enter Tryd.func15, Tryd.ntmps15
    go_wp2_with fail
    go_ret2
    rw [HV.out]
    exact ⟨none, 0, rfl, IntsAt.nil, Below.refl _ _⟩
  have hem : l.isEmpty = false := by cases l with | nil => exact absurd rfl he | cons a b => rfl
  have HV := Lib.hid (show parseCodesR l = codesFrom (splitL 32 l) [] by rw [parseCodesR, if_neg he])
  have HS := Lib.hid (csSplit 32 l w hE (by omega))
  have hple := splitL_piece_le 32 l
  have hpl : (splitL 32 l).length ≤ 100001 := by rw [splitL_length]; have := List.count_le_length (a := (32 : UInt8)) (l := l); omega
  generalize splitL 32 l = ps at HV HS hple hpl
  have He := Lib.hid he
  have HE := Lib.hid hE
  have Hple := Lib.hid hple
  clear he hE hple
  go_enter Tryd.func15, Tryd.ntmps15
  go_wp2_with fail
  refine HS.out.mono ?_
  rintro e w1 ⟨rfl, rfl⟩
  have hB := Blk.new w (strCellsOf ps) 9
  have hw1 : Below w.heap.size w (w.alloc (.cells (strCellsOf ps) 9)) := bBox _ _
  change Blk (w.alloc (.cells (ps.map fun p => Value.string ⟨p.toArray⟩).toArray 9)) w.heap.size (strCellsOf ps) 9 at hB
  change Below w.heap.size w (w.alloc (.cells (ps.map fun p => Value.string ⟨p.toArray⟩).toArray 9)) at hw1
  have hz1 : w.heap.size < (w.alloc (.cells (ps.map fun p => Value.string ⟨p.toArray⟩).toArray 9)).heap.size := by simp
  generalize w.alloc (.cells (ps.map fun p => Value.string ⟨p.toArray⟩).toArray 9) = w1 at hB hw1 hz1 ⊢
  have HB := Lib.hid hB
  clear hB
  go_wp2_with fail
  go_loopw [4, 14] (fun o i wr => ∃ (k : Nat) (acc : List Int), k ≤ ps.length ∧ i = .int .i64 k ∧ Hid (OwnI wr w1.heap.size o acc) ∧ acc.length ≤ k ∧ Hid (parseCodesR l = codesFrom (ps.drop k) acc) ∧ Below w1.heap.size w1 wr) (fun _ i _ => ps.length - (intOf i).toNat)
  case atStart => exact ⟨0, [], Nat.zero_le _, rfl, Lib.hid (OwnI.nil _ _), by simp, HV, Below.refl _ _⟩
  case round =>
    obtain ⟨k, acc, hk, rfl, HO, hacc, HC, hbr⟩ := hrel
    by_cases hlt : k < ps.length
    · have hcp := piece_cell (HB.out.keep hbr) hlt
      have hpm := Hple.out _ (piece_mem hlt)
      have HP := Lib.hid (cpParse (piece ps k) wr (HE.out.keep (bUp hw1 hbr)).dig (by omega))
      cases hp : parseCp (piece ps k) with
      | none =>
        have HR := Lib.hid (codes_bad hlt HC.out hp)
        rw [parseV_none hp] at HP
        have Hp := Lib.hid hp
        clear hp
        generalize piece ps k = pk at hcp hpm HP
        go_wp2_with fail
        refine HP.out.mono ?_
        rintro e w2 ⟨rfl, hb2⟩
        go_wp2_with fail
        go_ret2
        rw [HR.out]
        exact ⟨none, 0, rfl, IntsAt.nil, bUp hw1 (bUp hbr hb2)⟩
      | some c =>
        have HR := Lib.hid (codes_good hlt HC.out hp)
        rw [parseV_some hp] at HP
        have Hp := Lib.hid hp
        clear hp
        generalize piece ps k = pk at hcp hpm HP
        go_wp2_with fail
        refine HP.out.mono ?_
        rintro e w2 ⟨rfl, hb2⟩
        have hsz2 : w1.heap.size ≤ w2.heap.size := by have h1 := hbr.size; have h2 := hb2.size; omega
        go_wp2_with (at_builtin; refine wpI rfl _ _ rfl w1.heap.size rfl (HO.out.keep (bUp hb2 (bBox _ _))) [c] rfl (ints_new _ _ _) (by simp) ?c1 ?c2 ?_)
        case c1 => simp; omega
        case c2 => simp; omega
        intro v' w3 hown3 hb3
        have hb4 := hb3 w1 (bUp (bUp hbr hb2) (bBox _ _))
        clear hb3
        go_wp2_with fail
        go_roundw
        case rel => exact ⟨k + 1, _, by omega, by go_num, hown3, by simp; omega, HR, hb4⟩
        case measure => simp [intOf]; omega
    · have HR := Lib.hid (show parseCodesR l = (acc, 0) by rw [HC.out, List.drop_of_length_le (by omega)]; rfl)
      obtain ⟨A', c', rfl⟩ := HO.out.form
      go_wp2_with fail
      go_ret2
      rw [HR.out]
      exact ⟨A', c', rfl, HO.out.ints, bUp hw1 hbr⟩
end Go.Proofs.YtgkogbjlbcllmaaDoor
