/- Collation elements: the error of one; memory of lists of them. Texts of elements: plain laws. No program in sight. Elements read from a text: plain laws. Check of an element, of the program and of the reference; check of a list Check of the reference; check of a list weights -/
import Derived.Test.YthogkokifiibnaaGreatDoorA2
import Derived.Deep.RegionLaw
namespace Go.Proofs.YthogkokifiibnaaGreatDoor
open Go.RowKit Go.Sort

/-- an element -/
structure ElemD where
  p : Int
  s : Int
  t : Int
  v : Bool
deriving Inhabited
def inW (n : Int) : Bool := decide (0 ≤ n) && decide (n ≤ 65535)
def badE (d : ElemD) : Bool := (d.p != 0 && (d.s == 0 || d.t == 0)) || (d.s != 0 && d.t == 0) || (d.v && d.p == 0)
/-- the error of an element -/
def chkE (d : ElemD) : Int := if inW d.p && inW d.s && inW d.t then (if badE d then 11 else 0) else 1
theorem infoElem : (Tryz.prog.info? 45).map (fun i => (i.zero, i.size, i.bytes)) = some (some (.agg #[.int .i64 0, .int .i64 0, .int .i64 0, .bool false]), 4, 32) := by kernel_rfl

def elemCells (d : ElemD) : List Value := [.int .i64 d.p, .int .i64 d.s, .int .i64 d.t, .bool d.v]
def rowE (ls : List ElemD) : List Value := ls.flatMap elemCells
theorem rowE_snoc (ls : List ElemD) (d : ElemD) : rowE (ls ++ [d]) = rowE ls ++ elemCells d := by simp [rowE]
theorem rowE_length : ∀ ls : List ElemD, (rowE ls).length = ls.length * 4
  | [] => rfl
  | d :: ls => by
    have := rowE_length ls
    unfold rowE at this ⊢
    rw [List.flatMap_cons, List.length_append, this]
    simp [elemCells]
    omega
/-- v is a slice of elements of the call's own -/
def OwnE (w : World) (base : Nat) (v : Value) (ls : List ElemD) : Prop := w.ownsRow base 45 4 v ls.length (rowE ls)
theorem OwnE.nil (w : World) (base : Nat) : OwnE w base (.slice none 0 0) [] := ⟨by simp [rowE], .inl ⟨rfl, by simp⟩⟩
theorem OwnE.form {w : World} {base : Nat} {v : Value} {ls : List ElemD} (h : OwnE w base v ls) : ∃ A c, v = .slice A ls.length c ∧ ls.length ≤ c := by
  rcases h.2 with ⟨hv, h0⟩ | ⟨g, cap, cur, hv, _, _, h1, _⟩
  · exact ⟨none, 0, by rw [hv, h0], by omega⟩
  · exact ⟨_, _, hv, h1⟩
theorem OwnE.row {w : World} {base : Nat} {v : Value} {ls : List ElemD} (h : OwnE w base v ls) : ∀ g, v.ownBlock = some g → base ≤ g ∧ ∃ cur, w.heap[g]? = some (.cells cur 45 (0, 0)) := by
  intro g hg
  rcases h.2 with ⟨rfl, h0⟩ | ⟨g', cap, cur, rfl, hb, hc, _⟩
  · cases hg
  · simp only [Value.ownBlock, Option.some.injEq] at hg
    subst hg
    exact ⟨hb, cur, hc⟩
theorem OwnE.keep {w w' : World} {base : Nat} {v : Value} {ls : List ElemD} (h : OwnE w base v ls) (hb : Below w.heap.size w w') : OwnE w' base v ls :=
  h.kept ⟨hb.os, hb.tape, hb.output, hb.size, fun i hi _ => hb.block i hi⟩ (row := none) (by cases v.ownBlock <;> simp)
theorem OwnE.mono {w : World} {base base' : Nat} {v : Value} {ls : List ElemD} (h : OwnE w base v ls) (hb : base' ≤ base) : OwnE w base' v ls := by
  refine ⟨h.1, ?_⟩
  rcases h.2 with h0 | ⟨g, cap, cur, hv, hg, hr⟩
  · exact .inl h0
  · exact .inr ⟨g, cap, cur, hv, by omega, hr⟩
/-- the k-th element -/
def elemAt (ls : List ElemD) (k : Nat) : ElemD := ls.getD k default
theorem elemAt_get {ls : List ElemD} {k : Nat} (h : k < ls.length) : ls[k]? = some (elemAt ls k) := by simp [elemAt, h]
theorem elemAt_mem {ls : List ElemD} {k : Nat} (h : k < ls.length) : elemAt ls k ∈ ls := by simp [elemAt, h]
/-- the slice at A reads as the elements ls -/
def ElemsAt (w : World) (A : Option Addr) (ls : List ElemD) : Prop :=
  0 < ls.length → ∃ b off, A = some ⟨b, off, none⟩ ∧ b < w.heap.size ∧ ∀ j, j < ls.length →
    w.cell? ⟨b, off + j * 4, none⟩ = some (.int .i64 (elemAt ls j).p) ∧ w.cell? ⟨b, off + j * 4 + 1, none⟩ = some (.int .i64 (elemAt ls j).s) ∧ w.cell? ⟨b, off + j * 4 + 2, none⟩ = some (.int .i64 (elemAt ls j).t) ∧ w.cell? ⟨b, off + j * 4 + 3, none⟩ = some (.bool (elemAt ls j).v)
theorem ElemsAt.keep {w w' : World} {A : Option Addr} {ls : List ElemD} (h : ElemsAt w A ls) (hb : Below w.heap.size w w') : ElemsAt w' A ls := by
  intro hz
  obtain ⟨b, off, e, hlt, hc⟩ := h hz
  refine ⟨b, off, e, Nat.lt_of_lt_of_le hlt hb.size, fun j hj => ?_⟩
  obtain ⟨h0, h1, h2, h3⟩ := hc j hj
  exact ⟨(hb.cell hlt).trans h0, (hb.cell hlt).trans h1, (hb.cell hlt).trans h2, (hb.cell hlt).trans h3⟩
theorem ElemsAt.at_ {w : World} {A : Option Addr} {ls : List ElemD} (h : ElemsAt w A ls) {k : Nat} (hk : k < ls.length) : ∃ b off, A = some ⟨b, off, none⟩ ∧ b < w.heap.size ∧
    w.cell? ⟨b, off + k * 4, none⟩ = some (.int .i64 (elemAt ls k).p) ∧ w.cell? ⟨b, off + k * 4 + 1, none⟩ = some (.int .i64 (elemAt ls k).s) ∧ w.cell? ⟨b, off + k * 4 + 2, none⟩ = some (.int .i64 (elemAt ls k).t) ∧ w.cell? ⟨b, off + k * 4 + 3, none⟩ = some (.bool (elemAt ls k).v) := by
  obtain ⟨b, off, e, hb, hc⟩ := h (by omega)
  exact ⟨b, off, e, hb, hc k hk⟩
theorem rowE_at : ∀ (ls : List ElemD) (j : Nat) (d : ElemD), ls[j]? = some d → ∀ i, i < 4 → (rowE ls)[j * 4 + i]? = (elemCells d)[i]?
  | [], j, d, h, i, hi => by simp at h
  | y :: ls, 0, d, h, i, hi => by
    simp at h
    subst h
    simp only [rowE, List.flatMap_cons, Nat.zero_mul, Nat.zero_add]
    rw [List.getElem?_append_left (by simpa [elemCells] using hi)]
  | y :: ls, j + 1, d, h, i, hi => by
    simp at h
    simp only [rowE, List.flatMap_cons]
    rw [List.getElem?_append_right (by simp [elemCells]; omega)]
    have := rowE_at ls j d h i hi
    rw [← this]
    congr 1
    simp [elemCells]
    omega
theorem OwnE.elems {w : World} {base : Nat} {A : Option Addr} {n c : Nat} {ls : List ElemD} (h : OwnE w base (.slice A n c) ls) : ElemsAt w A ls := by
  intro hz
  obtain ⟨g, cap, hv, _, hlt⟩ := World.ownsRow.form h hz
  have hA : A = some ⟨g, 0, none⟩ := by injection hv
  subst hA
  refine ⟨g, 0, rfl, hlt, fun j hj => ?_⟩
  have key : ∀ i v, i < 4 → (elemCells (elemAt ls j))[i]? = some v → w.cell? ⟨g, 0 + j * 4 + i, none⟩ = some v := fun i v hi hv' => by
    have := World.ownsRow.cells h (g := g) (by injection hv with _ _ e3; rw [e3]; rfl) (j * 4 + i) v ((rowE_at ls j _ (elemAt_get hj) i hi).trans hv')
    rw [Go.WideShapes.add_plain] at this
    rw [← this]
    congr 2
    omega
  exact ⟨key 0 _ (by omega) rfl, key 1 _ (by omega) rfl, key 2 _ (by omega) rfl, key 3 _ (by omega) rfl⟩
end Go.Proofs.YthogkokifiibnaaGreatDoor
namespace Go.Proofs.YthogkokifiibnaaGreatDoor
open Go.RowKit Go.Sort

def hex4 (n : Int) : List UInt8 := hexN 4 n.toNat
theorem hex4_length (n : Int) : (hex4 n).length = 4 := hexN_length 4 _
def signE (d : ElemD) : UInt8 := if d.v then 42 else 46
/-- the text of an element -/
def oneE (d : ElemD) : List UInt8 := [91, signE d] ++ hex4 d.p ++ [46] ++ hex4 d.s ++ [46] ++ hex4 d.t ++ [93]
theorem oneE_length (d : ElemD) : (oneE d).length = 17 := by simp [oneE, hex4_length]
/-- Text: the elements, or the error of the first that is not valid -/
def textE (ls : List ElemD) : List UInt8 × Int := match ls.find? (fun d => chkE d != 0) with | some d => ([], chkE d) | none => (ls.flatMap oneE, 0)
def chksE (ls : List ElemD) : Int := match ls.find? (fun d => chkE d != 0) with | some d => chkE d | none => 0
theorem chks_bad {ls : List ElemD} {k : Nat} {d : ElemD} (h : ls[k]? = some d) (hp : (ls.take k).all (fun d => chkE d == 0) = true) (hd : ¬ chkE d = 0) : chksE ls = chkE d ∧ textE ls = ([], chkE d) := by
  have hlt : k < ls.length := (List.getElem?_eq_some_iff.1 h).1
  have e : ls = ls.take k ++ d :: ls.drop (k + 1) := by
    have := List.take_append_drop k ls
    rw [List.drop_eq_getElem_cons hlt, (List.getElem?_eq_some_iff.1 h).2] at this
    exact this.symm
  have hf : ls.find? (fun d => chkE d != 0) = some d := by
    rw [e, List.find?_append, List.find?_eq_none.2 (fun x hx => by have := List.all_eq_true.1 hp x hx; simp at this; simp [this]), List.find?_cons, show (chkE d != 0) = true by simp [hd]]
    rfl
  unfold chksE textE
  rw [hf]
  exact ⟨rfl, rfl⟩
theorem chks_good {ls : List ElemD} (hp : ls.all (fun d => chkE d == 0) = true) : chksE ls = 0 ∧ textE ls = (ls.flatMap oneE, 0) := by
  have hf : ls.find? (fun d => chkE d != 0) = none := List.find?_eq_none.2 (fun x hx => by have := List.all_eq_true.1 hp x hx; simp at this; simp [this])
  unfold chksE textE
  rw [hf]
  exact ⟨rfl, rfl⟩
theorem chksE_zero {ls : List ElemD} (h : chksE ls = 0) : ls.all (fun d => chkE d == 0) = true := by
  unfold chksE at h
  cases hf : ls.find? (fun d => chkE d != 0) with
  | none =>
    rw [List.all_eq_true]
    intro d hd
    have := List.find?_eq_none.1 hf d hd
    simpa using this
  | some d =>
    rw [hf] at h
    have := List.find?_some hf
    simp at this
    exact absurd h this
theorem textE_of (ls : List ElemD) : textE ls = if chksE ls = 0 then (ls.flatMap oneE, 0) else ([], chksE ls) := by
  by_cases h : chksE ls = 0
  · rw [if_pos h]
    exact (chks_good (chksE_zero h)).2
  · rw [if_neg h]
    unfold chksE at h
    cases hf : ls.find? (fun d => chkE d != 0) with
    | none => rw [hf] at h; exact absurd rfl h
    | some d => unfold textE chksE; rw [hf]
theorem flatE_length (ls : List ElemD) : (ls.flatMap oneE).length = 17 * ls.length := by
  induction ls with
  | nil => rfl
  | cons d r ih => rw [List.flatMap_cons, List.length_append, ih, oneE_length, List.length_cons]; omega
theorem flatE_snoc (ls : List ElemD) {k : Nat} {d : ElemD} (h : ls[k]? = some d) : (ls.take (k + 1)).flatMap oneE = (ls.take k).flatMap oneE ++ oneE d := by
  rw [List.take_add_one, h, List.flatMap_append]
  simp
theorem chk_step {ls : List ElemD} {k : Nat} {d : ElemD} (h : ls[k]? = some d) (hk : (ls.take k).all (fun d => chkE d == 0) = true) (hp : chkE d = 0) : (ls.take (k + 1)).all (fun d => chkE d == 0) = true := by
  rw [List.take_add_one, h, List.all_append, hk]
  simp [hp]

/-- the value of digits; other bytes count for nothing -/
def hexR : List UInt8 → Int → Int
  | [], n => n
  | b :: r, n => hexR r (if 0 ≤ hexVal (b.toNat : Int) then 16 * n + hexVal (b.toNat : Int) else n)
theorem numL_hexR : ∀ (l : List UInt8) (n : Int) {c : Int}, numL l n = some c → hexR l n = c
  | [], n, c, h => by simp [numL] at h; exact h
  | b :: r, n, c, h => by
    rw [numL] at h
    split at h
    · cases h
    · rename_i hb
      rw [hexR, if_pos (by omega), ← numL_hexR r _ h]
      congr 1
      omega
theorem numL_snoc : ∀ (l : List UInt8) (b : UInt8) (acc : Int), numL (l ++ [b]) acc = match numL l acc with | none => none | some c => if hexVal (b.toNat : Int) < 0 then none else some (c * 16 + hexVal (b.toNat : Int))
  | [], b, acc => by simp [numL]
  | a :: r, b, acc => by
    rw [List.cons_append, numL, numL]
    split
    · rfl
    · exact numL_snoc r b _
theorem hexC_back {b : UInt8} (h : 0 ≤ hexVal (b.toNat : Int)) : UInt8.ofNat (hexC (hexVal (b.toNat : Int)).toNat) = b := by
  have h1 := hexVal_is (b.toNat : Int)
  have h2 := hexC_is (hexVal (b.toNat : Int)).toNat
  have h3 : hexC (hexVal (b.toNat : Int)).toNat = b.toNat := by omega
  rw [h3]
  simp
/-- digits that are read are the digits of their value -/
theorem hexN_of_num : ∀ (n : Nat) (l : List UInt8) (c : Int), l.length = n → numL l 0 = some c → 0 ≤ c ∧ c < 16 ^ n ∧ hexN n c.toNat = l
  | 0, l, c, hl, h => by
    obtain rfl := List.length_eq_zero_iff.1 hl
    simp [numL] at h
    subst h
    simp [hexN]
  | n + 1, l, c, hl, h => by
    have hne : l ≠ [] := fun e => by rw [e] at hl; simp at hl
    obtain ⟨r, b, rfl⟩ : ∃ r b, l = r ++ [b] := ⟨l.dropLast, l.getLast hne, (List.dropLast_concat_getLast hne).symm⟩
    have hr : r.length = n := by simp at hl; exact hl
    rw [numL_snoc] at h
    cases hq : numL r 0 with
    | none => rw [hq] at h; cases h
    | some q =>
      rw [hq] at h
      dsimp only at h
      split at h
      · cases h
      · rename_i hb
        obtain ⟨i1, i2, i3⟩ := hexN_of_num n r q hr hq
        have hv := hexVal_le (b.toNat : Int)
        simp only [Option.some.injEq] at h
        subst h
        refine ⟨by omega, by rw [Int.pow_succ]; omega, ?_⟩
        rw [hexN]
        have e1 : (q * 16 + hexVal (b.toNat : Int)).toNat / 16 = q.toNat := by omega
        have e2 : (q * 16 + hexVal (b.toNat : Int)).toNat % 16 = (hexVal (b.toNat : Int)).toNat := by omega
        rw [e1, e2, i3, hexC_back (by omega)]
theorem numL_hex4 {n : Int} (h0 : 0 ≤ n) (h1 : n ≤ 65535) : numL (hex4 n) 0 = some n := by
  have key : ∀ (k c : Nat), c < 16 ^ k → numL (hexN k c) 0 = some (c : Int) := by
    intro k
    induction k with
    | zero => intro c h; simp at h; subst h; rfl
    | succ k ih =>
      intro c h
      have h1 : c / 16 < 16 ^ k := by rw [Nat.pow_succ] at h; omega
      have hd := hexC_le (c % 16) (by omega)
      have e : (UInt8.ofNat (hexC (c % 16))).toNat = hexC (c % 16) := by rw [UInt8.toNat_ofNat']; omega
      have h2 : hexVal ((UInt8.ofNat (hexC (c % 16))).toNat : Int) = ((c % 16 : Nat) : Int) := by rw [e]; exact hexVal_hit (by omega) rfl
      rw [hexN, numL_snoc, ih (c / 16) h1]
      dsimp only
      rw [h2, if_neg (by omega)]
      congr 1
      omega
  obtain ⟨m, rfl⟩ := Int.eq_ofNat_of_zero_le h0
  exact key 4 m (by omega)
end Go.Proofs.YthogkokifiibnaaGreatDoor
namespace Go.Proofs.YthogkokifiibnaaGreatDoor
open Go.RowKit Go.Sort

def byteE (l : List UInt8) (k : Nat) : UInt8 := l.getD k 0
/-- the element that a text of 17 bytes denotes -/
def elemT (t : List UInt8) : Option ElemD :=
  if byteE t 0 = 91 ∧ (byteE t 1 = 46 ∨ byteE t 1 = 42) ∧ byteE t 6 = 46 ∧ byteE t 11 = 46 ∧ byteE t 16 = 93 then
    match numL (seg t 2 6) 0, numL (seg t 7 11) 0, numL (seg t 12 16) 0 with
    | some p, some q, some r => some ⟨p, q, r, byteE t 1 == 42⟩
    | _, _, _ => none
  else none
/-- what the reference takes for it -/
def guessE (t : List UInt8) : ElemD := ⟨hexR (seg t 2 6) 0, hexR (seg t 7 11) 0, hexR (seg t 12 16) 0, byteE t 1 == 42⟩
theorem elemT_one {t : List UInt8} (ht : t.length = 17) {d : ElemD} (h : elemT t = some d) : oneE d = t ∧ guessE t = d ∧ inW d.p = true ∧ inW d.s = true ∧ inW d.t = true := by
  match t, ht with
  | [a0, a1, a2, a3, a4, a5, a6, a7, a8, a9, a10, a11, a12, a13, a14, a15, a16], _ =>
    unfold elemT at h
    split at h
    · rename_i hc
      have s1 : seg [a0, a1, a2, a3, a4, a5, a6, a7, a8, a9, a10, a11, a12, a13, a14, a15, a16] 2 6 = [a2, a3, a4, a5] := rfl
      have s2 : seg [a0, a1, a2, a3, a4, a5, a6, a7, a8, a9, a10, a11, a12, a13, a14, a15, a16] 7 11 = [a7, a8, a9, a10] := rfl
      have s3 : seg [a0, a1, a2, a3, a4, a5, a6, a7, a8, a9, a10, a11, a12, a13, a14, a15, a16] 12 16 = [a12, a13, a14, a15] := rfl
      rw [s1, s2, s3] at h
      cases h1 : numL [a2, a3, a4, a5] 0 with
      | none => rw [h1] at h; cases h
      | some p =>
        cases h2 : numL [a7, a8, a9, a10] 0 with
        | none => rw [h1, h2] at h; cases h
        | some q =>
          cases h3 : numL [a12, a13, a14, a15] 0 with
          | none => rw [h1, h2, h3] at h; cases h
          | some r =>
            rw [h1, h2, h3] at h
            simp only [Option.some.injEq] at h
            subst h
            obtain ⟨p1, p2, p3⟩ := hexN_of_num 4 _ _ rfl h1
            obtain ⟨q1, q2, q3⟩ := hexN_of_num 4 _ _ rfl h2
            obtain ⟨r1, r2, r3⟩ := hexN_of_num 4 _ _ rfl h3
            obtain ⟨c0, c1, c6, c11, c16⟩ := hc
            have e0 : a0 = 91 := c0
            have e1 : a1 = 46 ∨ a1 = 42 := c1
            have e6 : a6 = 46 := c6
            have e11 : a11 = 46 := c11
            have e16 : a16 = 93 := c16
            subst e0 e6 e11 e16
            refine ⟨?_, ?_, by simp [inW]; omega, by simp [inW]; omega, by simp [inW]; omega⟩
            · unfold oneE hex4
              dsimp only
              rw [p3, q3, r3]
              have es : signE ⟨p, q, r, byteE [91, a1, a2, a3, a4, a5, 46, a7, a8, a9, a10, 46, a12, a13, a14, a15, 93] 1 == 42⟩ = a1 := by
                show (if (a1 == 42) = true then (42 : UInt8) else 46) = a1
                rcases e1 with rfl | rfl <;> rfl
              rw [es]
              rfl
            · unfold guessE
              rw [s1, s2, s3, numL_hexR _ _ h1, numL_hexR _ _ h2, numL_hexR _ _ h3]
    · cases h
theorem num_of_hexN (n : Nat) : ∃ c, numL (hexN 4 n) 0 = some c := by
  have hv : ∀ k, k < 16 → ¬ hexVal ((UInt8.ofNat (hexC k)).toNat : Int) < 0 := fun k hk => by
    have hd := hexC_le k hk
    have e : (UInt8.ofNat (hexC k)).toNat = hexC k := by rw [UInt8.toNat_ofNat']; omega
    rw [e, hexVal_hit hk rfl]
    omega
  have : hexN 4 n = [UInt8.ofNat (hexC (n / 16 / 16 / 16 % 16)), UInt8.ofNat (hexC (n / 16 / 16 % 16)), UInt8.ofNat (hexC (n / 16 % 16)), UInt8.ofNat (hexC (n % 16))] := rfl
  rw [this]
  simp only [numL]
  rw [if_neg (hv _ (by omega)), if_neg (hv _ (by omega)), if_neg (hv _ (by omega)), if_neg (hv _ (by omega))]
  exact ⟨_, rfl⟩
theorem elemT_back {t : List UInt8} (h : oneE (guessE t) = t) : elemT t = some (guessE t) := by
  have key : ∀ g : ElemD, guessE t = g → oneE g = t → elemT t = some g := by
    intro g hg h
    obtain ⟨p, q, r, v⟩ := g
    obtain ⟨c1, h1⟩ := num_of_hexN p.toNat
    obtain ⟨c2, h2⟩ := num_of_hexN q.toNat
    obtain ⟨c3, h3⟩ := num_of_hexN r.toNat
    have e : oneE ⟨p, q, r, v⟩ = [91, signE ⟨p, q, r, v⟩] ++ hexN 4 p.toNat ++ [46] ++ hexN 4 q.toNat ++ [46] ++ hexN 4 r.toNat ++ [93] := rfl
    have s1 : seg t 2 6 = hexN 4 p.toNat := by rw [← h, e]; rfl
    have s2 : seg t 7 11 = hexN 4 q.toNat := by rw [← h, e]; rfl
    have s3 : seg t 12 16 = hexN 4 r.toNat := by rw [← h, e]; rfl
    have b0 : byteE t 0 = 91 := by rw [← h, e]; rfl
    have b1 : byteE t 1 = signE ⟨p, q, r, v⟩ := by rw [← h, e]; rfl
    have b6 : byteE t 6 = 46 := by rw [← h, e]; rfl
    have b11 : byteE t 11 = 46 := by rw [← h, e]; rfl
    have b16 : byteE t 16 = 93 := by rw [← h, e]; rfl
    unfold guessE at hg
    rw [s1, s2, s3, numL_hexR _ _ h1, numL_hexR _ _ h2, numL_hexR _ _ h3] at hg
    unfold elemT
    rw [s1, s2, s3, h1, h2, h3, if_pos ⟨b0, by rw [b1]; unfold signE; cases v <;> simp, b6, b11, b16⟩]
    simp only
    rw [hg]
  exact key _ rfl h
theorem elemT_eq {t : List UInt8} (ht : t.length = 17) : elemT t = if oneE (guessE t) = t then some (guessE t) else none := by
  by_cases h : oneE (guessE t) = t
  · rw [if_pos h, elemT_back h]
  · rw [if_neg h]
    cases he : elemT t with
    | none => rfl
    | some d =>
      obtain ⟨h1, h2, _⟩ := elemT_one ht he
      rw [h2] at h
      exact absurd h1 h
/-- the elements of a text -/
def readN : Nat → List UInt8 → Option (List ElemD)
  | 0, l => if l = [] then some [] else none
  | n + 1, l => if l = [] then some [] else if l.length < 17 then none else match elemT (l.take 17) with | some d => (readN n (l.drop 17)).map (d :: ·) | none => none
def readE (l : List UInt8) : Option (List ElemD) := readN l.length l
theorem readN_more : ∀ (n m : Nat) (l : List UInt8), l.length ≤ n → l.length ≤ m → readN n l = readN m l
  | 0, m, l, h1, _ => by
    obtain rfl := List.length_eq_zero_iff.1 (by omega : l.length = 0)
    cases m <;> rfl
  | n + 1, 0, l, _, h2 => by
    obtain rfl := List.length_eq_zero_iff.1 (by omega : l.length = 0)
    rfl
  | n + 1, m + 1, l, h1, h2 => by
    unfold readN
    split
    · rfl
    · split
      · rfl
      · rename_i hl
        rw [readN_more n m (l.drop 17) (by simp; omega) (by simp; omega)]
theorem readE_nil : readE [] = some [] := rfl
theorem readE_short {l : List UInt8} (h0 : l ≠ []) (h : l.length < 17) : readE l = none := by
  unfold readE
  cases hl : l.length with
  | zero => exact absurd (List.length_eq_zero_iff.1 hl) h0
  | succ n => rw [readN, if_neg h0, if_pos (by omega)]
theorem readE_step {l : List UInt8} (h : 17 ≤ l.length) : readE l = match elemT (l.take 17) with | some d => (readE (l.drop 17)).map (d :: ·) | none => none := by
  unfold readE
  cases hl : l.length with
  | zero => omega
  | succ n =>
    rw [readN, if_neg (fun e => by rw [e] at hl; simp at hl), if_neg (by omega), readN_more n (l.drop 17).length (l.drop 17) (by simp; omega) (Nat.le_refl _)]
theorem readE_mod : ∀ (n : Nat) {l : List UInt8}, l.length ≤ n → l.length % 17 ≠ 0 → readE l = none
  | 0, l, h, hm => by omega
  | n + 1, l, h, hm => by
    by_cases h17 : 17 ≤ l.length
    · rw [readE_step h17, readE_mod n (l := l.drop 17) (by simp; omega) (by simp; omega)]
      cases elemT (l.take 17) <;> rfl
    · exact readE_short (fun e => by rw [e] at hm; simp at hm) (by omega)
end Go.Proofs.YthogkokifiibnaaGreatDoor
namespace Go.Proofs.YthogkokifiibnaaGreatDoor
open Go.RowKit Go.Sort

theorem inW_yes {n : Int} (h : inW n = true) : decide (n < 0) = false ∧ decide ((65535 : Int) < n) = false := by
  unfold inW at h
  simp only [Bool.and_eq_true, decide_eq_true_eq] at h
  exact ⟨decide_eq_false (by omega), decide_eq_false (by omega)⟩
theorem inW_no {n : Int} (h : inW n = false) : decide (n < 0) = true ∨ (decide (n < 0) = false ∧ decide ((65535 : Int) < n) = true) := by
  unfold inW at h
  by_cases h0 : n < 0
  · exact .inl (decide_eq_true h0)
  · refine .inr ⟨decide_eq_false h0, decide_eq_true ?_⟩
    simp at h
    omega
theorem chkE_one {d : ElemD} (h : inW d.p = false ∨ inW d.s = false ∨ inW d.t = false) : chkE d = 1 := by
  unfold chkE
  rcases h with h | h | h <;> rw [h] <;> simp
theorem chkE_two {d : ElemD} (h1 : inW d.p = true) (h2 : inW d.s = true) (h3 : inW d.t = true) : chkE d = if badE d then 11 else 0 := by
  unfold chkE
  rw [h1, h2, h3]
  rfl
def wAt (d : ElemD) (k : Nat) : Int := match k with | 0 => d.p | 1 => d.s | _ => d.t

theorem bneOf {x : Int} {b : Bool} (h : (x == 0) = b) : (x != 0) = !b := by subst h; rfl
theorem arr3 (p s t : Int) (v : Bool) (k : Nat) (hk : k < 3) (w : World) : (Instr.index 100 (.agg #[.int .i64 p, .int .i64 s, .int .i64 t]) (.int .i64 k)).run Tryz.prog w = .ok (.int .i64 (wAt ⟨p, s, t, v⟩ k)) w := by
  obtain rfl | rfl | rfl : k = 0 ∨ k = 1 ∨ k = 2 := by omega
  all_goals kernel_rfl

set_option maxHeartbeats 8000000 in
set_option maxRecDepth 100000 in
theorem elCheck (d : ElemD) (w : World) :
    Calls Tryz.prog 48 #[.agg #[.int .i64 d.p, .int .i64 d.s, .int .i64 d.t, .bool d.v]] w fun e w' => e = .returned (.int .i64 (chkE d)) ∧ Below w.heap.size w w' := by
  have H1 := Lib.hid (fun h => chkE_one (d := d) h)
  have H2 := Lib.hid (fun h1 h2 h3 => chkE_two (d := d) h1 h2 h3)
  have HB := Lib.hid (show badE d = ((d.p != 0 && (d.s == 0 || d.t == 0)) || (d.s != 0 && d.t == 0) || (d.v && d.p == 0)) from rfl)
  generalize chkE d = ce at H1 H2
  generalize badE d = be at H2 HB
  obtain ⟨p, s, t, v⟩ := d
  dsimp only at H1 H2 HB ⊢
  go_enter Tryz.func48, Tryz.ntmps48
  go_wp2_with fail
  go_loop [12] (fun i => ∃ k : Nat, k ≤ 3 ∧ i = .int .i64 k ∧ Hid (∀ j, j < k → inW (wAt ⟨p, s, t, v⟩ j) = true)) (fun i => 3 - (intOf i).toNat)
  case atStart => exact ⟨0, by omega, rfl, Lib.hid (fun j hj => by omega)⟩
  case round =>
    obtain ⟨k, hk, rfl, HK⟩ := hrel
    by_cases h3 : k < 3
    · have hx := arr3 p s t v k h3
      have hk3 : (k : Int) < 3 := by omega
      cases hin : inW (wAt ⟨p, s, t, v⟩ k) with
      | true =>
        have hn : Hid (∀ j, j < k + 1 → inW (wAt ⟨p, s, t, v⟩ j) = true) := Lib.hid (fun j hj => by
          by_cases hjk : j < k
          · exact HK.out j hjk
          · obtain rfl : j = k := by omega
            exact hin)
        obtain ⟨i1, i2⟩ := inW_yes hin
        generalize wAt ⟨p, s, t, v⟩ k = x at hx i1 i2 hin
        have Hin := Lib.hid hin
        clear hin
        go_wp2_with fail
        go_round
        case rel => exact ⟨k + 1, by omega, by go_num, hn⟩
        case measure => simp [intOf]; omega
      | false =>
        have hr : ce = 1 := H1.out (by
          obtain rfl | rfl | rfl : k = 0 ∨ k = 1 ∨ k = 2 := by omega
          · exact .inl hin
          · exact .inr (.inl hin)
          · exact .inr (.inr hin))
        subst hr
        generalize wAt ⟨p, s, t, v⟩ k = x at hx hin
        rcases inW_no hin with i1 | ⟨i1, i2⟩
        · have Hin := Lib.hid hin
          clear hin
          go_wp2_with fail
          go_ret
          exact ⟨rfl, bBox w _⟩
        · have Hin := Lib.hid hin
          clear hin
          go_wp2_with fail
          go_ret
          exact ⟨rfl, bBox w _⟩
    · obtain rfl : k = 3 := by omega
      have hr : ce = if be = true then 11 else 0 := H2.out (HK.out 0 (by omega)) (HK.out 1 (by omega)) (HK.out 2 (by omega))
      have Hr := Lib.hid (show ce = if ((p != 0 && (s == 0 || t == 0)) || (s != 0 && t == 0) || (v && p == 0)) = true then 11 else 0 by rw [hr, HB.out])
      clear H1 H2 HB hr
      cases hp : (p == 0) <;> cases hs : (s == 0) <;> cases ht : (t == 0) <;> cases v
      all_goals
        have p1 := bneOf hp
        have s1 := bneOf hs
        simp only [Bool.not_true, Bool.not_false] at p1 s1
        have h := Hr.out
        rw [p1, s1, hp, hs, ht] at h
        have Hc := Lib.hid h
        clear h Hr
        go_wp2_with fail
        go_ret
        exact ⟨by rw [Hc.out]; rfl, bBox w _⟩
end Go.Proofs.YthogkokifiibnaaGreatDoor
namespace Go.Proofs.YthogkokifiibnaaGreatDoor
open Go.RowKit Go.Sort

theorem rfWeight (n : Int) (w : World) : Calls Tryz.prog 69 #[.int .i64 n] w fun e w' => e = .returned (.bool (inW n)) ∧ w = w' := by
  by_cases h1 : 0 ≤ n <;> by_cases h2 : n ≤ 65535
  all_goals
    go_enter Tryz.func69, Tryz.ntmps69
    go_wp2
    go_ret
    exact ⟨by simp [inW, h1, h2], rfl⟩

set_option maxHeartbeats 8000000 in
set_option maxRecDepth 100000 in
theorem rfECheck (d : ElemD) (w : World) :
    Calls Tryz.prog 50 #[.agg #[.int .i64 d.p, .int .i64 d.s, .int .i64 d.t, .bool d.v]] w fun e w' => e = .returned (.int .i64 (chkE d)) ∧ Below w.heap.size w w' := by
  have H1 := Lib.hid (fun h => chkE_one (d := d) h)
  have H2 := Lib.hid (fun h1 h2 h3 => chkE_two (d := d) h1 h2 h3)
  have HB := Lib.hid (show badE d = ((d.p != 0 && (d.s == 0 || d.t == 0)) || (d.s != 0 && d.t == 0) || (d.v && d.p == 0)) from rfl)
  generalize chkE d = ce at H1 H2
  generalize badE d = be at H2 HB
  obtain ⟨p, s, t, v⟩ := d
  dsimp only at H1 H2 HB ⊢
  have W1 := Lib.hid (fun w' => rfWeight p w')
  have W2 := Lib.hid (fun w' => rfWeight s w')
  have W3 := Lib.hid (fun w' => rfWeight t w')
  go_enter Tryz.func50, Tryz.ntmps50
  cases h1 : inW p with
  | false =>
    obtain rfl : ce = 1 := H1.out (.inl h1)
    rw [h1] at W1
    go_wp2_with fail
    refine (W1.out _).mono ?_
    rintro e w1 ⟨rfl, rfl⟩
    go_wp2_with fail
    go_ret
    exact ⟨rfl, bBox w _⟩
  | true =>
    rw [h1] at W1
    cases h2 : inW s with
    | false =>
      obtain rfl : ce = 1 := H1.out (.inr (.inl h2))
      rw [h2] at W2
      go_wp2_with fail
      refine (W1.out _).mono ?_
      rintro e w1 ⟨rfl, rfl⟩
      go_wp2_with fail
      refine (W2.out _).mono ?_
      rintro e w1 ⟨rfl, rfl⟩
      go_wp2_with fail
      go_ret
      exact ⟨rfl, bBox w _⟩
    | true =>
      rw [h2] at W2
      cases h3 : inW t with
      | false =>
        obtain rfl : ce = 1 := H1.out (.inr (.inr h3))
        rw [h3] at W3
        go_wp2_with fail
        refine (W1.out _).mono ?_
        rintro e w1 ⟨rfl, rfl⟩
        go_wp2_with fail
        refine (W2.out _).mono ?_
        rintro e w1 ⟨rfl, rfl⟩
        go_wp2_with fail
        refine (W3.out _).mono ?_
        rintro e w1 ⟨rfl, rfl⟩
        go_wp2_with fail
        go_ret
        exact ⟨rfl, bBox w _⟩
      | true =>
        rw [h3] at W3
        have hr := H2.out h1 h2 h3
        have Hr := Lib.hid (show ce = if ((p != 0 && (s == 0 || t == 0)) || (s != 0 && t == 0) || (v && p == 0)) = true then 11 else 0 by rw [hr, HB.out])
        clear H1 H2 HB hr h1 h2 h3
        cases hp : (p == 0) <;> cases hs : (s == 0) <;> cases ht : (t == 0) <;> cases v
        all_goals
          have p1 := bneOf hp
          have s1 := bneOf hs
          simp only [Bool.not_true, Bool.not_false] at p1 s1
          have h := Hr.out
          rw [p1, s1, hp, hs, ht] at h
          have Hc := Lib.hid h
          clear h Hr
          go_wp2_with fail
          refine (W1.out _).mono ?_
          rintro e w1 ⟨rfl, rfl⟩
          go_wp2_with fail
          refine (W2.out _).mono ?_
          rintro e w1 ⟨rfl, rfl⟩
          go_wp2_with fail
          refine (W3.out _).mono ?_
          rintro e w1 ⟨rfl, rfl⟩
          go_wp2_with fail
          go_ret
          exact ⟨by rw [Hc.out]; rfl, bBox w _⟩

set_option maxHeartbeats 8000000 in
set_option maxRecDepth 100000 in
theorem elChecks (ls : List ElemD) (A : Option Addr) (cp : Nat) (w : World) (hA : ElemsAt w A ls) (hl : ls.length ≤ 1000000) :
    Calls Tryz.prog 23 #[.slice A ls.length cp] w fun e w' => e = .returned (.int .i64 (chksE ls)) ∧ Below w.heap.size w w' := by
  have HA := Lib.hid hA
  clear hA
  go_enter Tryz.func23, Tryz.ntmps23
  go_wp2_with fail
  go_loopw [8] (fun i wr => ∃ k : Nat, k ≤ ls.length ∧ i = .int .i64 k ∧ Hid ((ls.take k).all (fun d => chkE d == 0) = true) ∧ Below w.heap.size w wr) (fun i _ => ls.length - (intOf i).toNat)
  case atStart => exact ⟨0, Nat.zero_le _, rfl, Lib.hid rfl, Below.refl _ _⟩
  case round =>
    obtain ⟨k, hk, rfl, HK, hbr⟩ := hrel
    by_cases hlt : k < ls.length
    · obtain ⟨b1, o1, rfl, h1, p0, p1, p2, p3⟩ := (HA.out.keep hbr).at_ hlt
      have hbad := fun h => (chks_bad (elemAt_get hlt) HK.out h).1
      have hgood := fun h => chk_step (elemAt_get hlt) HK.out h
      generalize elemAt ls k = d at p0 p1 p2 p3 hbad hgood
      have HC := Lib.hid (fun w' => elCheck d w')
      have hki : (k : Int) < ls.length := by omega
      by_cases hc : chkE d = 0
      · have Hg := Lib.hid (hgood hc)
        rw [hc] at HC
        obtain ⟨p, s, t, v⟩ := d
        dsimp only at p0 p1 p2 p3 HC
        have Hc := Lib.hid hc
        clear hc
        clear hbad hgood
        go_wp2_with fail
        refine (HC.out _).mono ?_
        rintro e w2 ⟨rfl, hb2⟩
        go_wp2_with fail
        go_roundw
        case rel => exact ⟨k + 1, by omega, by go_num, Hg, hbr.trans ((bUp (bBox wr _) hb2).mono hbr.size)⟩
        case measure => simp [intOf]; omega
      · have Hg := Lib.hid (hbad hc)
        have hne : (chkE d != 0) = true := by simp [hc]
        generalize chkE d = ce at HC Hg hne
        obtain ⟨p, s, t, v⟩ := d
        dsimp only at p0 p1 p2 p3 HC
        have Hc := Lib.hid hc
        clear hc
        clear hbad hgood
        go_wp2_with fail
        refine (HC.out _).mono ?_
        rintro e w2 ⟨rfl, hb2⟩
        go_wp2_with fail
        go_ret
        exact ⟨by rw [Hg.out]; rfl, hbr.trans ((bUp (bBox wr _) hb2).mono hbr.size)⟩
    · obtain rfl : k = ls.length := by omega
      have hki : ¬ (ls.length : Int) < ls.length := by omega
      have Hg := Lib.hid (chks_good (by have := HK.out; rwa [List.take_length] at this)).1
      go_wp2_with fail
      go_ret
      exact ⟨by rw [Hg.out]; rfl, hbr⟩
end Go.Proofs.YthogkokifiibnaaGreatDoor
namespace Go.Proofs.YthogkokifiibnaaGreatDoor
open Go.RowKit Go.Sort

def u8Vals (zs : List Int) : List Value := zs.map (.int .u8 ·)
/-- v is a slice of bytes of the call's own -/
def OwnU (w : World) (base : Nat) (v : Value) (zs : List Int) : Prop := w.ownsRow base 5 1 v zs.length (u8Vals zs)
theorem OwnU.nil (w : World) (base : Nat) : OwnU w base (.slice none 0 0) [] := ⟨by simp [u8Vals], .inl ⟨rfl, by simp⟩⟩
theorem OwnU.form {w : World} {base : Nat} {v : Value} {zs : List Int} (h : OwnU w base v zs) : ∃ A c, v = .slice A zs.length c := by
  rcases h.2 with ⟨hv, h0⟩ | ⟨g, cap, cur, hv, _, _, h1, _⟩
  · exact ⟨none, 0, by rw [hv, h0]⟩
  · exact ⟨_, _, hv⟩
theorem OwnU.keep {w w' : World} {base : Nat} {v : Value} {zs : List Int} (h : OwnU w base v zs) (hb : Below w.heap.size w w') : OwnU w' base v zs :=
  World.ownsRow.kept h ⟨hb.os, hb.tape, hb.output, hb.size, fun i hi _ => hb.block i hi⟩ (row := none) (by cases v.ownBlock <;> simp)
/-- the bytes news lie from block b on -/
def U8At (w : World) (b : Nat) (news : List Int) : Prop := b < w.heap.size ∧ ∀ j u, (u8Vals news)[j]? = some u → w.cell? ⟨b, 0 + j, none⟩ = some u
theorem U8At.keep {w w' : World} {b : Nat} {news : List Int} (h : U8At w b news) (hb : Below w.heap.size w w') : U8At w' b news := ⟨Nat.lt_of_lt_of_le h.1 hb.size, fun j u hu => (hb.cell (p := ⟨b, 0 + j, none⟩) h.1).trans (h.2 j u hu)⟩
theorem u8_new (w : World) (news : List Int) (t : TypeId) : U8At (w.alloc (.cells (u8Vals news).toArray t)) w.heap.size news := by
  refine ⟨by simp, fun j u hu => ?_⟩
  rw [Nat.zero_add, cell_box]
  simpa using hu
theorem wpU {ops : Array Oper} {rest : List Oper} {o : Oper} {a : Act} {Q : Exit → Act → World → Prop} {W : World} (hgd : o.guard = none) (s x : Operand) (ho : o.op = .call { callee := .builtin .append, args := #[s, x], argTypes := #[55, 55] })
    (base : Nat) {v : Value} {zs : List Int} (hs : a.eval s = v) (h : OwnU W base v zs) (news : List Int) {b c2 : Nat} (hx : a.eval x = .slice (some ⟨b, 0, none⟩) news.length c2) (hB : U8At W b news) (hl : zs.length + news.length ≤ 1000000) (hb : base ≤ W.heap.size)
    (hK : ∀ v' w', Hid (OwnU w' base v' (zs ++ news)) → (∀ w0, Below base w0 W → Below base w0 w') → wpList Tryz.prog ops Q rest (a.put o.dst v') w') : wpList Tryz.prog ops Q (o :: rest) a W := by
  obtain ⟨i0, hi, hz0, hz1, hz2⟩ := info_parts infoByte
  refine wpList_append_own _ hgd s x 55 ho base 5 i0 (.int .u8 0) 1 1 Tryz.underlying55 hi hz0 hz1 hz2 rfl (by decide) v zs.length (u8Vals zs) hs h ⟨b, 0, none⟩ news.length c2 (u8Vals news) hx
    (by simp [u8Vals]) (fun j u hu => by
      rw [Go.WideShapes.add_plain]
      exact hB.2 j u hu) (fun u hu => by simp [u8Vals] at hu; obtain ⟨x, _, rfl⟩ := hu; rfl) (by unfold maxLen; omega) (by omega) hb ?_
  intro v' w' hown' hg _
  refine hK v' w' (Lib.hid ?_) (fun w0 h0 => ?_)
  · unfold OwnU
    rw [List.length_append]
    simpa [u8Vals] using hown'
  · exact h0.grown hg hb (fun k hk => (World.ownsRow.lt h k hk).1)
theorem stepU {ops : Array Oper} {o : Oper} {a : Act} {K : Act → World → Prop} {Q : Exit → Act → World → Prop} {E : Prop} {W : World} (hgd : o.guard = none) (s x : Operand) (ho : o.op = .call { callee := .builtin .append, args := #[s, x], argTypes := #[55, 55] })
    (base : Nat) {v : Value} {zs : List Int} (hs : a.eval s = v) (h : OwnU W base v zs) (news : List Int) {b c2 : Nat} (hx : a.eval x = .slice (some ⟨b, 0, none⟩) news.length c2) (hB : U8At W b news) (hl : zs.length + news.length ≤ 1000000) (hb : base ≤ W.heap.size)
    (hK : ∀ v' w', Hid (OwnU w' base v' (zs ++ news)) → (∀ w0, Below base w0 W → Below base w0 w') → K (a.put o.dst v') w') : if Region.wanted o (yielded ops a.tmps) = true then Oper.wp Tryz.prog o a W K Q else E := by
  rw [if_pos (by simp [Region.wanted, hgd])]
  obtain ⟨i0, hi, hz0, hz1, hz2⟩ := info_parts infoByte
  refine wp_append_own _ s x 55 ho base 5 i0 (.int .u8 0) 1 1 Tryz.underlying55 hi hz0 hz1 hz2 rfl (by decide) v zs.length (u8Vals zs) hs h ⟨b, 0, none⟩ news.length c2 (u8Vals news) hx
    (by simp [u8Vals]) (fun j u hu => by
      rw [Go.WideShapes.add_plain]
      exact hB.2 j u hu) (fun u hu => by simp [u8Vals] at hu; obtain ⟨x, _, rfl⟩ := hu; rfl) (by unfold maxLen; omega) (by omega) hb ?_
  intro v' w' hown' hg _
  refine hK v' w' (Lib.hid ?_) (fun w0 h0 => ?_)
  · unfold OwnU
    rw [List.length_append]
    simpa [u8Vals] using hown'
  · exact h0.grown hg hb (fun k hk => (World.ownsRow.lt h k hk).1)
theorem and15 (n : Int) : bits .and .i64 n 15 = n % 16 := by
  have h15 : (BitVec.ofInt 64 15).toNat = 2 ^ 4 - 1 := by decide
  have key : (BitVec.ofInt 64 n &&& BitVec.ofInt 64 15).toNat = (n % ((2 ^ 64 : Nat) : Int)).toNat % 2 ^ 4 := by
    rw [BitVec.toNat_and, BitVec.toNat_ofInt, h15, Nat.and_two_pow_sub_one_eq_mod]
  show IntKind.i64.wrap ((BitVec.ofInt 64 n &&& BitVec.ofInt 64 15).toNat : Nat) = n % 16
  rw [key, IntKind.wrap_i64]
  omega
theorem digBtE (k : Nat) (hk : k < 16) : btN [48, 49, 50, 51, 52, 53, 54, 55, 56, 57, 65, 66, 67, 68, 69, 70] k = hexC k := by
  obtain rfl | rfl | rfl | rfl | rfl | rfl | rfl | rfl | rfl | rfl | rfl | rfl | rfl | rfl | rfl | rfl : k = 0 ∨ k = 1 ∨ k = 2 ∨ k = 3 ∨ k = 4 ∨ k = 5 ∨ k = 6 ∨ k = 7 ∨ k = 8 ∨ k = 9 ∨ k = 10 ∨ k = 11 ∨ k = 12 ∨ k = 13 ∨ k = 14 ∨ k = 15 := by omega
  all_goals rfl
theorem nib (z : Int) (m : Nat) (h0 : 0 ≤ z) : ∃ n : Nat, n < 16 ∧ n = z.toNat / m % 16 ∧ bits .and .i64 (z / m) 15 = (n : Int) := by
  refine ⟨z.toNat / m % 16, by omega, rfl, ?_⟩
  rw [and15]
  obtain ⟨k, rfl⟩ := Int.eq_ofNat_of_zero_le h0
  simp

def h4I (z : Int) : List Int := [hexC (z.toNat / 4096 % 16), hexC (z.toNat / 256 % 16), hexC (z.toNat / 16 % 16), hexC (z.toNat % 16)]
def wI (zs : List Int) : List Int := zs.foldl (fun acc z => (if acc = [] then [] else acc ++ [46]) ++ h4I z) []
theorem wI_snoc (zs : List Int) {k : Nat} (h : k < zs.length) : wI (zs.take (k + 1)) = (if wI (zs.take k) = [] then [] else wI (zs.take k) ++ [46]) ++ h4I (nth zs k) := by
  unfold wI
  rw [List.take_add_one, List.foldl_append]
  simp [nth, h]
theorem wI_ne (zs : List Int) {k : Nat} (h0 : 0 < k) (h : k ≤ zs.length) : ¬ wI (zs.take k) = [] := by
  obtain ⟨j, rfl⟩ : ∃ j, k = j + 1 := ⟨k - 1, by omega⟩
  rw [wI_snoc zs (by omega)]
  simp [h4I]
theorem wI_len (zs : List Int) : ∀ {k : Nat}, k ≤ zs.length → (wI (zs.take k)).length ≤ 5 * k
  | 0, _ => by simp [wI]
  | k + 1, h => by
    have ih := wI_len zs (k := k) (by omega)
    rw [wI_snoc zs (by omega), List.length_append]
    have : (h4I (nth zs k)).length = 4 := rfl
    split
    · simp only [List.length_nil]; omega
    · rw [List.length_append, List.length_singleton]; omega
theorem h4I_byte {z n : Int} (h : n ∈ h4I z) : 0 ≤ n ∧ n ≤ 255 := by
  have k1 := hexC_le (z.toNat / 4096 % 16) (by omega)
  have k2 := hexC_le (z.toNat / 256 % 16) (by omega)
  have k3 := hexC_le (z.toNat / 16 % 16) (by omega)
  have k4 := hexC_le (z.toNat % 16) (by omega)
  simp only [h4I, List.mem_cons, List.not_mem_nil, or_false] at h
  rcases h with rfl | rfl | rfl | rfl <;> omega
theorem wI_byte (zs : List Int) : ∀ n ∈ wI zs, 0 ≤ n ∧ n ≤ 255 := by
  have key : ∀ (zs acc : List Int), (∀ n ∈ acc, 0 ≤ n ∧ n ≤ 255) → ∀ n ∈ zs.foldl (fun acc z => (if acc = [] then [] else acc ++ [46]) ++ h4I z) acc, 0 ≤ n ∧ n ≤ 255 := by
    intro zs
    induction zs with
    | nil => exact fun acc h => h
    | cons z r ih =>
      intro acc h
      refine ih _ (fun n hn => ?_)
      rcases List.mem_append.1 hn with hn | hn
      · split at hn
        · cases hn
        · rcases List.mem_append.1 hn with hn | hn
          · exact h n hn
          · simp at hn
            omega
      · exact h4I_byte hn
  exact key zs [] (fun n hn => by cases hn)
theorem convU {W : World} {base : Nat} {v : Value} {xs : List Int} (h : OwnU W base v xs) (hne : ¬ xs = []) (hb : ∀ n ∈ xs, 0 ≤ n ∧ n ≤ 255) : ∃ g c, v = .slice (some ⟨g, 0, none⟩) xs.length c ∧ (convert 55 9 (.slice (some ⟨g, 0, none⟩) xs.length c)).run Tryz.prog W = .ok (.string ⟨(xs.map fun n => UInt8.ofNat n.toNat).toArray⟩) W := by
  obtain ⟨g, cap, hv, _, hlt⟩ := World.ownsRow.form h (by cases xs with | nil => exact absurd rfl hne | cons => simp)
  refine ⟨g, cap, hv, ?_⟩
  have := run_convert_bytes_back (P := Tryz.prog) W 55 9 5 ⟨g, 0, none⟩ cap (xs.map fun n => UInt8.ofNat n.toNat) Tryz.underlying55 Tryz.underlying5 Tryz.underlying9 (fun j hj => ?_)
  · rwa [List.length_map] at this
  · have hj' : j < xs.length := by simpa using hj
    have hm := hb _ (List.getElem_mem hj')
    have := World.ownsRow.cells h (g := g) (by rw [hv]; rfl) j (.int .u8 xs[j]) (by simp [u8Vals, hj'])
    rw [this]
    congr 2
    simp
    omega

set_option maxHeartbeats 8000000 in
set_option maxRecDepth 100000 in
theorem elWeights (zs : List Int) (A : Option Addr) (cp : Nat) (w : World) (hA : IntsAt w A zs) (h0 : 0 < zs.length) (hl : zs.length ≤ 1000) (hz : ∀ z ∈ zs, 0 ≤ z ∧ z ≤ 65535) :
    Calls Tryz.prog 27 #[.slice A zs.length cp] w fun e w' => e = .returned (.string ⟨((wI zs).map fun n => UInt8.ofNat n.toNat).toArray⟩) ∧ Below w.heap.size w w' := by
  have HA := Lib.hid hA
  have Hz := Lib.hid hz
  clear hA hz
  go_enter Tryz.func27, Tryz.ntmps27
  go_wp2_with fail
  go_loopw [3, 8] (fun v i wr => ∃ k : Nat, k ≤ zs.length ∧ i = .int .i64 k ∧ Hid (OwnU wr w.heap.size v (wI (zs.take k))) ∧ Below w.heap.size w wr) (fun _ i _ => zs.length - (intOf i).toNat)
  case atStart => exact ⟨0, Nat.zero_le _, rfl, Lib.hid (OwnU.nil _ _), Below.refl _ _⟩
  case round =>
    obtain ⟨k, hk, rfl, HO, hbr⟩ := hrel
    by_cases hlt : k < zs.length
    · obtain ⟨b1, o1, rfl, h1, e1⟩ := (HA.out.keep hbr) (by omega)
      have g1 := e1 k hlt
      have hki : (k : Int) < zs.length := by omega
      clear e1
      have hzr := Hz.out _ (nth_mem hlt)
      have hst := wI_snoc zs hlt
      have hwl := wI_len zs hk
      generalize nth zs k = z at g1 hzr hst
      obtain ⟨n1, hn1, q1, e1⟩ := nib z 4096 hzr.1
      obtain ⟨n2, hn2, q2, e2⟩ := nib z 256 hzr.1
      obtain ⟨n3, hn3, q3, e3⟩ := nib z 16 hzr.1
      obtain ⟨n4, hn4, q4, e4⟩ := nib z 1 hzr.1
      have hh : h4I z = [(hexC n1 : Int), hexC n2, hexC n3, hexC n4] := by rw [q1, q2, q3, q4]; simp [h4I]
      rw [hh] at hst
      have e1 : bits .and .i64 (z / 4096) 15 = (n1 : Int) := e1
      have e2 : bits .and .i64 (z / 256) 15 = (n2 : Int) := e2
      have e3 : bits .and .i64 (z / 16) 15 = (n3 : Int) := e3
      have e4 : bits .and .i64 z 15 = (n4 : Int) := by have h := e4; rwa [show ((1 : Nat) : Int) = 1 from rfl, Int.ediv_one] at h
      have f1 := digBtE n1 hn1
      have f2 := digBtE n2 hn2
      have f3 := digBtE n3 hn3
      have f4 := digBtE n4 hn4
      have Q1 := Lib.hid q1
      have Q2 := Lib.hid q2
      have Q3 := Lib.hid q3
      have Q4 := Lib.hid q4
      have Hh := Lib.hid hh
      have Hst := Lib.hid hst
      clear q1 q2 q3 q4 hh hst
      clear hzr
      have m1 : (n1 : Int) < 16 := by omega
      have m2 : (n2 : Int) < 16 := by omega
      have m3 : (n3 : Int) < 16 := by omega
      have m4 : (n4 : Int) < 16 := by omega
      have hsz := hbr.size
      by_cases h0 : k = 0
      · subst h0
        have HN := Lib.hid (show wI (zs.take (0 + 1)) = [] ++ [(hexC n1 : Int), hexC n2, hexC n3, hexC n4] by rw [Hst.out, if_pos (by rfl)])
        have HO0 : Hid (OwnU wr w.heap.size u3 []) := HO
        rw [Nat.add_zero] at g1
        go_wp2_with fail
        refine wp_region_any (by kernel_rfl) ?_
        change wpAny _ _ _ _ _ _ _ (World.drew _)
        have hbd : Below wr.heap.size wr wr.drew := (Below.refl _ _).drew
        generalize wr.drew = wd at hbd
        refine wpAny_take (i := 0) (v := u3) rfl (by kernel_rfl) (by kernel_rfl) (by kernel_rfl) (fun _ _ _ h => h) (Or.inl ⟨by rfl, fun w => by go_simp⟩) ?_
        refine wpAny_take (i := 1) (v := .int .i64 z) rfl (by kernel_rfl) (by kernel_rfl) (by kernel_rfl) (fun _ _ _ h => h) (Or.inl ⟨by rfl, fun w => by go_simp⟩) ?_
        refine wpAny_take (i := 2) (v := .int .i64 (z / 4096)) rfl (by kernel_rfl) (by kernel_rfl) (by kernel_rfl) (fun _ _ _ h => h) (Or.inl ⟨by rfl, fun w => by go_simp⟩) ?_
        refine wpAny_take (i := 3) (v := .int .i64 n1) rfl (by kernel_rfl) (by kernel_rfl) (by kernel_rfl) (fun _ _ _ h => h) (Or.inl ⟨by rfl, fun w => by go_simp⟩) ?_
        refine wpAny_take (i := 4) (v := .int .u8 (hexC n1 : Int)) rfl (by kernel_rfl) (by kernel_rfl) (by kernel_rfl) (fun _ _ _ h => h) (Or.inl ⟨by rfl, fun w => by go_simp⟩) ?_
        refine wpAny_take (i := 5) (v := .int .i64 z) rfl (by kernel_rfl) (by kernel_rfl) (by kernel_rfl) (fun _ _ _ h => h) (Or.inl ⟨by rfl, fun w => by go_simp⟩) ?_
        refine wpAny_take (i := 6) (v := .int .i64 (z / 256)) rfl (by kernel_rfl) (by kernel_rfl) (by kernel_rfl) (fun _ _ _ h => h) (Or.inl ⟨by rfl, fun w => by go_simp⟩) ?_
        refine wpAny_take (i := 7) (v := .int .i64 n2) rfl (by kernel_rfl) (by kernel_rfl) (by kernel_rfl) (fun _ _ _ h => h) (Or.inl ⟨by rfl, fun w => by go_simp⟩) ?_
        refine wpAny_take (i := 8) (v := .int .u8 (hexC n2 : Int)) rfl (by kernel_rfl) (by kernel_rfl) (by kernel_rfl) (fun _ _ _ h => h) (Or.inl ⟨by rfl, fun w => by go_simp⟩) ?_
        refine wpAny_take (i := 9) (v := .int .i64 z) rfl (by kernel_rfl) (by kernel_rfl) (by kernel_rfl) (fun _ _ _ h => h) (Or.inl ⟨by rfl, fun w => by go_simp⟩) ?_
        refine wpAny_take (i := 10) (v := .int .i64 (z / 16)) rfl (by kernel_rfl) (by kernel_rfl) (by kernel_rfl) (fun _ _ _ h => h) (Or.inl ⟨by rfl, fun w => by go_simp⟩) ?_
        refine wpAny_take (i := 11) (v := .int .i64 n3) rfl (by kernel_rfl) (by kernel_rfl) (by kernel_rfl) (fun _ _ _ h => h) (Or.inl ⟨by rfl, fun w => by go_simp⟩) ?_
        refine wpAny_take (i := 12) (v := .int .u8 (hexC n3 : Int)) rfl (by kernel_rfl) (by kernel_rfl) (by kernel_rfl) (fun _ _ _ h => h) (Or.inl ⟨by rfl, fun w => by go_simp⟩) ?_
        refine wpAny_take (i := 13) (v := .int .i64 z) rfl (by kernel_rfl) (by kernel_rfl) (by kernel_rfl) (fun _ _ _ h => h) (Or.inl ⟨by rfl, fun w => by go_simp⟩) ?_
        refine wpAny_take (i := 14) (v := .int .i64 n4) rfl (by kernel_rfl) (by kernel_rfl) (by kernel_rfl) (fun _ _ _ h => h) (Or.inl ⟨by rfl, fun w => by go_simp⟩) ?_
        refine wpAny_take (i := 15) (v := .int .u8 (hexC n4 : Int)) rfl (by kernel_rfl) (by kernel_rfl) (by kernel_rfl) (fun _ _ _ h => h) (Or.inl ⟨by rfl, fun w => by go_simp⟩) ?_
        refine wpAny_ready (rs := [16]) (by kernel_rfl) (by simp) ?_
        refine AllReady.cons rfl (fun K hK => ?_) AllReady.nil
        go_simp
        refine hK _ _ ?_
        clear hK K
        refine wpAny_ready (rs := [17]) (by kernel_rfl) (by simp) ?_
        refine AllReady.cons rfl (fun K hK => ?_) AllReady.nil
        refine stepU rfl (.tmp 18) (.tmp 34) rfl w.heap.size rfl ((HO0.out.keep hbd).keep (bBox wd _)) [(hexC n1 : Int), hexC n2, hexC n3, hexC n4] rfl (u8_new wd [(hexC n1 : Int), hexC n2, hexC n3, hexC n4] 5) (by simp) (by have := hbd.size; simp; omega) ?_
        intro v' w5 HO5 hb6
        refine hK _ _ ?_
        clear hK K
        obtain ⟨A5, c5, rfl⟩ := HO5.out.form
        refine wpAny_take (i := 18) (v := .slice A5 ([] ++ [(hexC n1 : Int), hexC n2, hexC n3, hexC n4]).length c5) rfl (by kernel_rfl) (by kernel_rfl) (by kernel_rfl) (fun _ _ _ h => h) (Or.inl ⟨by rfl, fun w => by go_simp⟩) ?_
        refine wpAny_done (by kernel_rfl) ?_ _
        have hb5 := hb6 w (bUp (bUp hbr hbd) (bBox wd _))
        clear hb6
        go_wp2_with fail
        go_roundw
        case rel => exact ⟨1, by omega, by simp, Lib.hid (by rw [HN.out]; exact HO5.out), hb5⟩
        case measure => simp [intOf]; omega
      · have hk0 : 0 < k := by omega
        have HN := Lib.hid (show wI (zs.take (k + 1)) = (wI (zs.take k) ++ [46]) ++ [(hexC n1 : Int), hexC n2, hexC n3, hexC n4] by rw [Hst.out, if_neg (wI_ne zs hk0 hk)])
        generalize wI (zs.take k) = acc at HO HN hwl
        obtain ⟨Av, cv, rfl⟩ := HO.out.form
        go_wp2_with (at_builtin; (refine wpU rfl _ _ rfl w.heap.size rfl (HO.out.keep (bBox _ _)) [46] rfl (u8_new wr [46] 5) ?hl6 ?hb6 ?_))
        case hl6 => simp; omega
        case hb6 => simp; omega
        intro v4 w4 HO4 hb4
        have hb04 := hb4 w (hbr.trans ((bBox wr _).mono hsz))
        have hsz4 := hb04.size
        clear hb4
        have hl4 : (acc ++ [46]).length ≤ 5 * k + 1 := by simp; omega
        generalize acc ++ [46] = acc4 at HO4 HN hl4
        obtain ⟨A4, c4, rfl⟩ := HO4.out.form
        go_wp2_with fail
        refine wp_region_any (by kernel_rfl) ?_
        change wpAny _ _ _ _ _ _ _ (World.drew _)
        have hbd : Below w4.heap.size w4 w4.drew := (Below.refl _ _).drew
        generalize w4.drew = wd at hbd
        refine wpAny_take (i := 0) (v := .slice A4 acc4.length c4) rfl (by kernel_rfl) (by kernel_rfl) (by kernel_rfl) (fun _ _ _ h => h) (Or.inl ⟨by rfl, fun w => by go_simp⟩) ?_
        refine wpAny_take (i := 1) (v := .int .i64 z) rfl (by kernel_rfl) (by kernel_rfl) (by kernel_rfl) (fun _ _ _ h => h) (Or.inl ⟨by rfl, fun w => by go_simp⟩) ?_
        refine wpAny_take (i := 2) (v := .int .i64 (z / 4096)) rfl (by kernel_rfl) (by kernel_rfl) (by kernel_rfl) (fun _ _ _ h => h) (Or.inl ⟨by rfl, fun w => by go_simp⟩) ?_
        refine wpAny_take (i := 3) (v := .int .i64 n1) rfl (by kernel_rfl) (by kernel_rfl) (by kernel_rfl) (fun _ _ _ h => h) (Or.inl ⟨by rfl, fun w => by go_simp⟩) ?_
        refine wpAny_take (i := 4) (v := .int .u8 (hexC n1 : Int)) rfl (by kernel_rfl) (by kernel_rfl) (by kernel_rfl) (fun _ _ _ h => h) (Or.inl ⟨by rfl, fun w => by go_simp⟩) ?_
        refine wpAny_take (i := 5) (v := .int .i64 z) rfl (by kernel_rfl) (by kernel_rfl) (by kernel_rfl) (fun _ _ _ h => h) (Or.inl ⟨by rfl, fun w => by go_simp⟩) ?_
        refine wpAny_take (i := 6) (v := .int .i64 (z / 256)) rfl (by kernel_rfl) (by kernel_rfl) (by kernel_rfl) (fun _ _ _ h => h) (Or.inl ⟨by rfl, fun w => by go_simp⟩) ?_
        refine wpAny_take (i := 7) (v := .int .i64 n2) rfl (by kernel_rfl) (by kernel_rfl) (by kernel_rfl) (fun _ _ _ h => h) (Or.inl ⟨by rfl, fun w => by go_simp⟩) ?_
        refine wpAny_take (i := 8) (v := .int .u8 (hexC n2 : Int)) rfl (by kernel_rfl) (by kernel_rfl) (by kernel_rfl) (fun _ _ _ h => h) (Or.inl ⟨by rfl, fun w => by go_simp⟩) ?_
        refine wpAny_take (i := 9) (v := .int .i64 z) rfl (by kernel_rfl) (by kernel_rfl) (by kernel_rfl) (fun _ _ _ h => h) (Or.inl ⟨by rfl, fun w => by go_simp⟩) ?_
        refine wpAny_take (i := 10) (v := .int .i64 (z / 16)) rfl (by kernel_rfl) (by kernel_rfl) (by kernel_rfl) (fun _ _ _ h => h) (Or.inl ⟨by rfl, fun w => by go_simp⟩) ?_
        refine wpAny_take (i := 11) (v := .int .i64 n3) rfl (by kernel_rfl) (by kernel_rfl) (by kernel_rfl) (fun _ _ _ h => h) (Or.inl ⟨by rfl, fun w => by go_simp⟩) ?_
        refine wpAny_take (i := 12) (v := .int .u8 (hexC n3 : Int)) rfl (by kernel_rfl) (by kernel_rfl) (by kernel_rfl) (fun _ _ _ h => h) (Or.inl ⟨by rfl, fun w => by go_simp⟩) ?_
        refine wpAny_take (i := 13) (v := .int .i64 z) rfl (by kernel_rfl) (by kernel_rfl) (by kernel_rfl) (fun _ _ _ h => h) (Or.inl ⟨by rfl, fun w => by go_simp⟩) ?_
        refine wpAny_take (i := 14) (v := .int .i64 n4) rfl (by kernel_rfl) (by kernel_rfl) (by kernel_rfl) (fun _ _ _ h => h) (Or.inl ⟨by rfl, fun w => by go_simp⟩) ?_
        refine wpAny_take (i := 15) (v := .int .u8 (hexC n4 : Int)) rfl (by kernel_rfl) (by kernel_rfl) (by kernel_rfl) (fun _ _ _ h => h) (Or.inl ⟨by rfl, fun w => by go_simp⟩) ?_
        refine wpAny_ready (rs := [16]) (by kernel_rfl) (by simp) ?_
        refine AllReady.cons rfl (fun K hK => ?_) AllReady.nil
        go_simp
        refine hK _ _ ?_
        clear hK K
        refine wpAny_ready (rs := [17]) (by kernel_rfl) (by simp) ?_
        refine AllReady.cons rfl (fun K hK => ?_) AllReady.nil
        refine stepU (zs := acc4) rfl (.tmp 18) (.tmp 34) rfl w.heap.size rfl ((HO4.out.keep hbd).keep (bBox wd _)) [(hexC n1 : Int), hexC n2, hexC n3, hexC n4] rfl (u8_new wd [(hexC n1 : Int), hexC n2, hexC n3, hexC n4] 5) (by simp; omega) (by have := hbd.size; simp; omega) ?_
        intro v' w5 HO5 hb6
        generalize acc4 ++ [(hexC n1 : Int), hexC n2, hexC n3, hexC n4] = acc5 at HO5 HN
        refine hK _ _ ?_
        clear hK K
        obtain ⟨A5, c5, rfl⟩ := HO5.out.form
        refine wpAny_take (i := 18) (v := .slice A5 acc5.length c5) rfl (by kernel_rfl) (by kernel_rfl) (by kernel_rfl) (fun _ _ _ h => h) (Or.inl ⟨by rfl, fun w => by go_simp⟩) ?_
        refine wpAny_done (by kernel_rfl) ?_ _
        have hb5 := hb6 w (bUp (bUp hb04 hbd) (bBox wd _))
        clear hb6
        go_wp2_with fail
        go_roundw
        case rel => exact ⟨k + 1, by omega, by go_num, Lib.hid (by rw [HN.out]; exact HO5.out), hb5⟩
        case measure => simp [intOf]; omega
    · obtain rfl : k = zs.length := by omega
      have hki : ¬ (zs.length : Int) < zs.length := by omega
      rw [List.take_length] at HO
      have hne := wI_ne zs h0 (Nat.le_refl _)
      rw [List.take_length] at hne
      obtain ⟨g, c, rfl, hcv⟩ := convU HO.out hne (wI_byte zs)
      generalize hbs : ((wI zs).map fun n => UInt8.ofNat n.toNat) = bs at hcv
      have Hbs := Lib.hid hbs
      clear hbs hne
      go_wp2_with fail
      go_ret
      exact ⟨by rw [Hbs.out]; rfl, hbr⟩
end Go.Proofs.YthogkokifiibnaaGreatDoor
