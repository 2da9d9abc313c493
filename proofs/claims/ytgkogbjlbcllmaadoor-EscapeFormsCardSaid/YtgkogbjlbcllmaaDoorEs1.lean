/- escape: what Text writes (plain). -/
import Derived.Test.YtgkogbjlbcllmaaDoorHex
import Derived.Test.YtgkogbjlbcllmaaDoorCp1
namespace Go.Proofs.YtgkogbjlbcllmaaDoor

def ub (c : Int) : UInt8 := UInt8.ofNat c.toNat
theorem ub_toNat {c : Int} (h0 : 0 ≤ c) (h1 : c ≤ 255) : ((ub c).toNat : Int) = c := by
  unfold ub
  rw [UInt8.toNat_ofNat']
  omega
/-- the digits without zeros in front, at least one -/
def digL (c : Int) : List UInt8 := let d := (hexL c).dropWhile (fun b => b == 48); if d = [] then [48] else d
def pieceL (c : Int) : List UInt8 := if c = 34 ∨ c = 92 then [92, ub c] else if 32 ≤ c ∧ c ≤ 126 then [ub c] else [92, 117, 123] ++ digL c ++ [125]
def allValid (t : List Int) : Bool := t.all validB
def textE (t : List Int) : List UInt8 := [34] ++ t.flatMap pieceL ++ [34]
def strErr (l : List UInt8) (e : Int) : Value := .tuple #[.string ⟨l.toArray⟩, .int .i64 e]
def textEV (t : List Int) : Value := if allValid t then strErr (textE t) 0 else strErr [] 1
theorem digL_le (c : Int) : (digL c).length ≤ 6 := by
  have h1 := hexL_length_le c
  have h2 := (List.dropWhile_suffix (fun b : UInt8 => b == 48) (l := hexL c)).length_le
  unfold digL
  dsimp only
  split
  · simp
  · omega
theorem pieceL_le (c : Int) : (pieceL c).length ≤ 10 := by
  have := digL_le c
  unfold pieceL
  split
  · simp
  · split
    · simp
    · simp; omega
theorem pieces_le : ∀ t : List Int, (t.flatMap pieceL).length ≤ 10 * t.length
  | [] => by simp
  | c :: r => by
    have h1 := pieces_le r
    have h2 := pieceL_le c
    simp only [List.flatMap_cons, List.length_append, List.length_cons]
    omega
theorem textE_le (t : List Int) : (textE t).length ≤ 10 * t.length + 2 := by
  have := pieces_le t
  simp [textE]
  simp at this
  omega
theorem allValid_cons (c : Int) (r : List Int) : allValid (c :: r) = (validB c && allValid r) := rfl
theorem allValid_mem {t : List Int} (h : allValid t = true) : ∀ c ∈ t, validB c = true := by
  intro c hc
  exact List.all_eq_true.1 h c hc
end Go.Proofs.YtgkogbjlbcllmaaDoor
