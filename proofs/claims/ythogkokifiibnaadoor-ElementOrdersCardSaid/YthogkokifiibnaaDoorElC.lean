/- escape.Codes and escape.ParseCodes, as the files of elements want them -/
import Derived.Test.YthogkokifiibnaaDoorEl11
namespace Go.Proofs.YthogkokifiibnaaDoor
open Go.RowKit Go.Sort

def allValid (t : List Int) : Bool := t.all validB
theorem allValid_cons (x : Int) (t : List Int) : allValid (x :: t) = (validB x && allValid t) := by simp [allValid]
def strErr (l : List UInt8) (e : Int) : Value := .tuple #[.string ⟨l.toArray⟩, .int .i64 e]

set_option maxRecDepth 100000 in
theorem esValid (zs : List Int) (A : Option Addr) (cap : Nat) (w : World) (hA : IntsAt w A zs) (hl : zs.length ≤ 1000000) :
    Calls Tryd.prog 36 #[.slice A zs.length cap] w fun e w' => e = .returned (.bool (allValid zs)) ∧ w = w' := by
  have HA := Lib.hid hA
  clear hA
  go_enter Tryd.func36, Tryd.ntmps36
  go_wp2_with fail
  go_loop [7] (fun i => ∃ m : Nat, m ≤ zs.length ∧ i = .int .i64 m ∧ Hid (allValid zs = allValid (zs.drop m))) (fun i => zs.length - (intOf i).toNat)
  case atStart => exact ⟨0, Nat.zero_le _, rfl, Lib.hid rfl⟩
  case round =>
    obtain ⟨m, hm, rfl, HE⟩ := hrel
    by_cases hlt : m < zs.length
    · obtain ⟨b, off, rfl, hb, hc⟩ := HA.out.at_ (k := m) hlt
      have hE := HE.out
      rw [drop_nth hlt, allValid_cons] at hE
      cases hv : validB (nth zs m)
      · rw [hv, Bool.false_and] at hE
        have HE := Lib.hid hE
        have Hv := Lib.hid hv
        clear hE hv
        go_wp2_with (go_at_call 34; refine (cpValid _ _).mono ?_; rintro e w' ⟨rfl, rfl⟩; rw [Hv.out])
        go_ret
        exact ⟨ret_bool HE.out.symm, rfl⟩
      · rw [hv, Bool.true_and] at hE
        have HE := Lib.hid hE
        have Hv := Lib.hid hv
        clear hE hv
        go_wp2_with (go_at_call 34; refine (cpValid _ _).mono ?_; rintro e w' ⟨rfl, rfl⟩; rw [Hv.out])
        go_round
        case rel => exact ⟨m + 1, by omega, by go_num, HE⟩
        case measure => simp [intOf]; omega
    · have HE' := Lib.hid (show allValid zs = true by rw [HE.out, List.drop_of_length_le (by omega)]; rfl)
      go_wp2_with fail
      go_ret
      exact ⟨ret_bool HE'.out.symm, rfl⟩

def codesFrom : List (List UInt8) → List Int → List Int × Int
  | [], acc => (acc, 0)
  | p :: ps, acc => match parseCp p with | none => ([], 3) | some c => codesFrom ps (acc ++ [c])
def parseCodesR (s : List UInt8) : List Int × Int := if s = [] then ([], 0) else codesFrom (splitL 32 s) []
def IntsErr (r : List Int × Int) (w : World) (e : Ending) (w' : World) : Prop :=
  ∃ A c, e = .returned (.tuple #[.slice A r.1.length c, .int .i64 r.2]) ∧ OwnI w' w.heap.size (.slice A r.1.length c) r.1 ∧ Below w.heap.size w w'
theorem codes_bad {ps : List (List UInt8)} {k : Nat} {acc : List Int} {r : List Int × Int} (hk : k < ps.length) (h : r = codesFrom (ps.drop k) acc) (hp : parseCp (piece ps k) = none) : r = ([], 3) := by
  rw [h, drop_piece hk, codesFrom, hp]
theorem codes_good {ps : List (List UInt8)} {k : Nat} {acc : List Int} {r : List Int × Int} {c : Int} (hk : k < ps.length) (h : r = codesFrom (ps.drop k) acc) (hp : parseCp (piece ps k) = some c) : r = codesFrom (ps.drop (k + 1)) (acc ++ [c]) := by
  rw [h, drop_piece hk, codesFrom, hp]

set_option maxHeartbeats 2000000 in
set_option maxRecDepth 100000 in
theorem esParseCodes (l : List UInt8) (w : World) (hE : Env w) (hl : l.length ≤ 100000) :
    Calls Tryd.prog 44 #[.string ⟨l.toArray⟩] w (IntsErr (parseCodesR l) w) := by
  by_cases he : l = []
  · subst he
    have HV := Lib.hid (show parseCodesR [] = ([], 0) by rfl)
    have HE := Lib.hid hE
    clear hE
    go_enter Tryd.func44, Tryd.ntmps44
    go_wp2_with fail
    go_ret2
    rw [HV.out]
    exact ⟨none, 0, rfl, OwnI.nil _ _, Below.refl _ _⟩
  have hem : l.isEmpty = false := by cases l with | nil => exact absurd rfl he | cons a b => rfl
  have HV := Lib.hid (show parseCodesR l = codesFrom (splitL 32 l) [] by rw [parseCodesR, if_neg he])
  have HS := Lib.hid (csSplit 32 l w hE (by omega))
  have hple := splitL_piece_le 32 l
  have hpl : (splitL 32 l).length ≤ 100001 := by rw [splitL_length]; have := List.count_le_length (a := (32 : UInt8)) (l := l); omega
  generalize splitL 32 l = ps at HV HS hple hpl
  have He := Lib.hid he
  have HE := Lib.hid hE
  have Hple := Lib.hid hple
  clear he hE hple
  go_enter Tryd.func44, Tryd.ntmps44
  go_wp2_with fail
  refine HS.out.mono ?_
  rintro e w1 ⟨rfl, rfl⟩
  have hB := Blk.new w (strCellsOf ps) 9
  have hw1 : Below w.heap.size w (w.alloc (.cells (strCellsOf ps) 9)) := bBox _ _
  change Blk (w.alloc (.cells (ps.map fun p => Value.string ⟨p.toArray⟩).toArray 9)) w.heap.size (strCellsOf ps) 9 at hB
  change Below w.heap.size w (w.alloc (.cells (ps.map fun p => Value.string ⟨p.toArray⟩).toArray 9)) at hw1
  have hz1 : w.heap.size < (w.alloc (.cells (ps.map fun p => Value.string ⟨p.toArray⟩).toArray 9)).heap.size := by simp
  generalize w.alloc (.cells (ps.map fun p => Value.string ⟨p.toArray⟩).toArray 9) = w1 at hB hw1 hz1 ⊢
  have HB := Lib.hid hB
  clear hB
  go_wp2_with fail
  go_loopw [4, 14] (fun o i wr => ∃ (k : Nat) (acc : List Int), k ≤ ps.length ∧ i = .int .i64 k ∧ Hid (OwnI wr w1.heap.size o acc) ∧ acc.length ≤ k ∧ Hid (parseCodesR l = codesFrom (ps.drop k) acc) ∧ Below w1.heap.size w1 wr) (fun _ i _ => ps.length - (intOf i).toNat)
  case atStart => exact ⟨0, [], Nat.zero_le _, rfl, Lib.hid (OwnI.nil _ _), by simp, HV, Below.refl _ _⟩
  case round =>
    obtain ⟨k, acc, hk, rfl, HO, hacc, HC, hbr⟩ := hrel
    by_cases hlt : k < ps.length
    · have hcp := piece_cell (HB.out.keep hbr) hlt
      have hpm := Hple.out _ (piece_mem hlt)
      have HP := Lib.hid (cpParse (piece ps k) wr (HE.out.keep (bUp hw1 hbr)).dig (by omega))
      cases hp : parseCp (piece ps k) with
      | none =>
        have HR := Lib.hid (codes_bad hlt HC.out hp)
        rw [parseV_none hp] at HP
        have Hp := Lib.hid hp
        clear hp
        generalize piece ps k = pk at hcp hpm HP
        go_wp2_with fail
        refine HP.out.mono ?_
        rintro e w2 ⟨rfl, hb2⟩
        go_wp2_with fail
        go_ret2
        rw [HR.out]
        exact ⟨none, 0, rfl, OwnI.nil _ _, bUp hw1 (bUp hbr hb2)⟩
      | some c =>
        have HR := Lib.hid (codes_good hlt HC.out hp)
        rw [parseV_some hp] at HP
        have Hp := Lib.hid hp
        clear hp
        generalize piece ps k = pk at hcp hpm HP
        go_wp2_with fail
        refine HP.out.mono ?_
        rintro e w2 ⟨rfl, hb2⟩
        have hsz2 : w1.heap.size ≤ w2.heap.size := by have h1 := hbr.size; have h2 := hb2.size; omega
        go_wp2_with (at_builtin; refine wpI rfl _ _ rfl w1.heap.size rfl (HO.out.keep (bUp hb2 (bBox _ _))) [c] rfl (ints_new _ _ _) (by simp) ?c1 ?c2 ?_)
        case c1 => simp; omega
        case c2 => simp; omega
        intro v' w3 hown3 hb3
        have hb4 := hb3 w1 (bUp (bUp hbr hb2) (bBox _ _))
        clear hb3
        go_wp2_with fail
        go_roundw
        case rel => exact ⟨k + 1, _, by omega, by go_num, hown3, by simp; omega, HR, hb4⟩
        case measure => simp [intOf]; omega
    · have HR := Lib.hid (show parseCodesR l = (acc, 0) by rw [HC.out, List.drop_of_length_le (by omega)]; rfl)
      obtain ⟨A', c', rfl⟩ := HO.out.form
      go_wp2_with fail
      go_ret2
      rw [HR.out]
      exact ⟨A', c', rfl, HO.out.mono hw1.size, bUp hw1 hbr⟩

/-- words, a blank between each two -/
def joinL : List (List UInt8) → List UInt8
  | [] => []
  | [p] => p
  | p :: q :: r => p ++ 32 :: joinL (q :: r)
theorem joinL_lib : ∀ ps, Lib.join ps [32] = joinL ps
  | [] => rfl
  | [p] => Lib.join_one p [32]
  | p :: q :: r => by
    have ih := joinL_lib (q :: r)
    unfold Lib.join at ih ⊢
    rw [joinL, ← ih]
    simp [List.intercalate]
theorem joinL_snoc : ∀ (ps : List (List UInt8)) (p : List UInt8), ps ≠ [] → joinL (ps ++ [p]) = joinL ps ++ 32 :: p
  | [], _, h => absurd rfl h
  | [a], p, _ => rfl
  | a :: b :: r, p, _ => by
    have ih := joinL_snoc (b :: r) p (by simp)
    show a ++ 32 :: joinL (b :: r ++ [p]) = (a ++ 32 :: joinL (b :: r)) ++ 32 :: p
    rw [ih]
    simp
theorem joinL_le {m : Nat} : ∀ ps : List (List UInt8), (∀ p ∈ ps, p.length ≤ m) → (joinL ps).length ≤ (m + 1) * ps.length
  | [], _ => by simp [joinL]
  | [p], h => by have := h p (by simp); simp [joinL]; omega
  | p :: q :: r, h => by
    have h1 := joinL_le (q :: r) (fun x hx => h x (by simp [hx]))
    have h2 := h p (by simp)
    rw [joinL]
    simp only [List.length_append, List.length_cons] at h1 ⊢
    rw [Nat.mul_add (m + 1) (r.length + 1) 1]
    omega
def codesL (t : List Int) : List UInt8 := joinL (t.map hexL)
def codesV (t : List Int) : Value := if allValid t then strErr (codesL t) 0 else strErr [] 1
theorem codesL_le (t : List Int) : (codesL t).length ≤ 7 * t.length := by
  have := joinL_le (m := 6) (t.map hexL) (fun p hp => by obtain ⟨c, _, rfl⟩ := List.mem_map.1 hp; exact hexL_length_le c)
  rw [List.length_map] at this
  exact this

theorem esJoin (ps : List (List UInt8)) (A : Option Addr) (c : Nat) (w : World) (h : StrsAt w A ps) (hc : ps.length ≤ c) (hn : ps.length ≤ 1000000) (hl : (joinL ps).length ≤ 1000000000) :
    Calls Tryd.prog 38 #[.slice A ps.length c, .string ⟨#[32]⟩] w fun e w' => e = .returned (.string ⟨(joinL ps).toArray⟩) ∧ Below w.heap.size w w' := by
  by_cases h0 : 0 < ps.length
  · obtain ⟨b, off, rfl, hlt, hcell⟩ := h h0
    have hmap : (ps.map fun p => (⟨p.toArray⟩ : ByteArray)).map (·.data.toList) = ps := by
      rw [List.map_map]
      conv => rhs; rw [← List.map_id ps]
      rfl
    have hj := Tryd.strings_Join b off c (ps.map fun p => ⟨p.toArray⟩) ⟨#[32]⟩ w (fun j x hx => by
      rw [List.getElem?_map] at hx
      obtain ⟨p, hp, rfl⟩ := Option.map_eq_some_iff.1 hx
      obtain ⟨hj, rfl⟩ := List.getElem?_eq_some_iff.1 hp
      rw [hcell j hj]
      unfold piece
      rw [List.getD_eq_getElem?_getD, List.getElem?_eq_getElem hj]
      rfl) hlt (by rw [List.length_map]; omega) (by rw [List.length_map]; exact hc) (by
      rw [hmap]
      show (Lib.join ps [32]).length ≤ _
      rw [joinL_lib]
      omega)
    rw [hmap, List.length_map] at hj
    refine hj.mono fun e w' ⟨he, hb⟩ => ⟨?_, hb⟩
    rw [he]
    show Ending.returned (.string ⟨(Lib.join ps [32]).toArray⟩) = _
    rw [joinL_lib]
  · obtain rfl : ps = [] := List.length_eq_zero_iff.1 (by omega)
    exact (Tryd.strings_Join_none A c ⟨#[32]⟩ w).mono fun e w' ⟨he, hw⟩ => ⟨he, by rw [hw]; exact Below.refl _ _⟩

theorem map_snoc {t : List Int} {k : Nat} (hk : k < t.length) : (t.take (k + 1)).map hexL = (t.take k).map hexL ++ [hexL (nth t k)] := by
  rw [List.take_succ_eq_append_getElem hk, List.map_append, nth_lt hk]
  rfl

set_option maxHeartbeats 1000000 in
set_option maxRecDepth 100000 in
theorem esCodes (zs : List Int) (A : Option Addr) (cap : Nat) (w : World) (hA : IntsAt w A zs) (hl : zs.length ≤ 100000) (hD : Dig w) :
    Calls Tryd.prog 25 #[.slice A zs.length cap] w fun e w' => e = .returned (codesV zs) ∧ Below w.heap.size w w' := by
  have HV := Lib.hid (esValid zs A cap w hA (by omega))
  cases hv : allValid zs
  · have HR := Lib.hid (show codesV zs = strErr [] 1 by rw [codesV, hv]; rfl)
    have HA := Lib.hid hA
    have HD := Lib.hid hD
    have Hv := Lib.hid hv
    clear hA hD hv
    go_enter Tryd.func25, Tryd.ntmps25
    go_wp2_with fail
    refine HV.out.mono ?_
    rintro e w1 ⟨rfl, rfl⟩
    rw [Hv.out]
    go_wp2_with fail
    go_ret2
    exact ⟨by rw [HR.out]; rfl, Below.refl _ _⟩
  · have HR := Lib.hid (show codesV zs = strErr (codesL zs) 0 by rw [codesV, hv]; rfl)
    have hcl := codesL_le zs
    have HA := Lib.hid hA
    have HD := Lib.hid hD
    have Hv := Lib.hid hv
    clear hA hD hv
    go_enter Tryd.func25, Tryd.ntmps25
    go_wp2_with fail
    refine HV.out.mono ?_
    rintro e w1 ⟨rfl, rfl⟩
    rw [Hv.out]
    go_wp2_with fail
    go_loopw [4, 12] (fun o i wr => ∃ (k : Nat) (ps : List (List UInt8)), k ≤ zs.length ∧ i = .int .i64 k ∧ Hid (OwnS wr w.heap.size o ps) ∧ ps.length ≤ k ∧ Hid (ps = (zs.take k).map hexL) ∧ Below w.heap.size w wr) (fun _ i _ => zs.length - (intOf i).toNat)
    case atStart => exact ⟨0, [], Nat.zero_le _, rfl, Lib.hid (OwnS.nil _ _), by simp, Lib.hid rfl, Below.refl _ _⟩
    case round =>
      obtain ⟨k, ps, hk, rfl, HO, hps, HE, hbr⟩ := hrel
      by_cases hlt : k < zs.length
      · obtain ⟨b, off, rfl, hb, hc⟩ := (HA.out.keep hbr).at_ (k := k) hlt
        have HS := Lib.hid (show ps ++ [hexL (nth zs k)] = (zs.take (k + 1)).map hexL by rw [map_snoc hlt, HE.out])
        generalize nth zs k = x at hc HS
        go_wp2_with fail
        refine (cpHex x wr (HD.out.keep hbr)).mono ?_
        rintro e w2 ⟨rfl, hb2⟩
        have hsz2 : w.heap.size ≤ w2.heap.size := by have h1 := hbr.size; have h2 := hb2.size; omega
        go_wp2_with (at_builtin; refine wpS rfl _ _ rfl w.heap.size rfl (HO.out.keep hb2) (hexL x) rfl ?c1 hsz2 ?_)
        case c1 => omega
        intro v' w3 hown3 hb3
        have hb4 := hb3 w (bUp hbr hb2)
        clear hb3
        go_wp2_with fail
        go_roundw
        case rel => exact ⟨k + 1, _, by omega, by go_num, hown3, by simp; omega, HS, hb4⟩
        case measure => simp [intOf]; omega
      · have HS := Lib.hid (show codesL zs = joinL ps by rw [codesL, HE.out, List.take_of_length_le (by omega)])
        obtain ⟨A', c', rfl, hc', _⟩ := HO.out.form
        have HSt := Lib.hid HO.out.strs
        have hjl : (joinL ps).length ≤ 1000000000 := by rw [← HS.out]; omega
        go_wp2_with fail
        refine (esJoin ps A' c' _ HSt.out hc' (by omega) hjl).mono ?_
        rintro e w2 ⟨rfl, hb2⟩
        go_wp2_with fail
        go_ret2
        exact ⟨by rw [HR.out, HS.out]; rfl, bUp hbr hb2⟩
end Go.Proofs.YthogkokifiibnaaDoor
