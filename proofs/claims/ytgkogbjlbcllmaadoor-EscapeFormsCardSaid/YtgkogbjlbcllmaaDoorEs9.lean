/- escape.Codes, ref05.Codes -/
import Derived.Test.YtgkogbjlbcllmaaDoorEs7
namespace Go.Proofs.YtgkogbjlbcllmaaDoor
open Go.RowKit Go.Sort

/-- words, a blank between each two -/
def joinL : List (List UInt8) → List UInt8
  | [] => []
  | [p] => p
  | p :: q :: r => p ++ 32 :: joinL (q :: r)
theorem joinL_lib : ∀ ps, Lib.join ps [32] = joinL ps
  | [] => rfl
  | [p] => Lib.join_one p [32]
  | p :: q :: r => by
    have ih := joinL_lib (q :: r)
    unfold Lib.join at ih ⊢
    rw [joinL, ← ih]
    simp [List.intercalate]
theorem joinL_snoc : ∀ (ps : List (List UInt8)) (p : List UInt8), ps ≠ [] → joinL (ps ++ [p]) = joinL ps ++ 32 :: p
  | [], _, h => absurd rfl h
  | [a], p, _ => rfl
  | a :: b :: r, p, _ => by
    have ih := joinL_snoc (b :: r) p (by simp)
    show a ++ 32 :: joinL (b :: r ++ [p]) = (a ++ 32 :: joinL (b :: r)) ++ 32 :: p
    rw [ih]
    simp
theorem joinL_le {m : Nat} : ∀ ps : List (List UInt8), (∀ p ∈ ps, p.length ≤ m) → (joinL ps).length ≤ (m + 1) * ps.length
  | [], _ => by simp [joinL]
  | [p], h => by have := h p (by simp); simp [joinL]; omega
  | p :: q :: r, h => by
    have h1 := joinL_le (q :: r) (fun x hx => h x (by simp [hx]))
    have h2 := h p (by simp)
    rw [joinL]
    simp only [List.length_append, List.length_cons] at h1 ⊢
    rw [Nat.mul_add (m + 1) (r.length + 1) 1]
    omega
def codesL (t : List Int) : List UInt8 := joinL (t.map hexL)
def codesV (t : List Int) : Value := if allValid t then strErr (codesL t) 0 else strErr [] 1
theorem codesL_le (t : List Int) : (codesL t).length ≤ 7 * t.length := by
  have := joinL_le (m := 6) (t.map hexL) (fun p hp => by obtain ⟨c, _, rfl⟩ := List.mem_map.1 hp; exact hexL_length_le c)
  rw [List.length_map] at this
  exact this

theorem esJoin (ps : List (List UInt8)) (A : Option Addr) (c : Nat) (w : World) (h : StrsAt w A ps) (hc : ps.length ≤ c) (hn : ps.length ≤ 1000000) (hl : (joinL ps).length ≤ 1000000000) :
    Calls Tryd.prog 36 #[.slice A ps.length c, .string ⟨#[32]⟩] w fun e w' => e = .returned (.string ⟨(joinL ps).toArray⟩) ∧ Below w.heap.size w w' := by
  by_cases h0 : 0 < ps.length
  · obtain ⟨b, off, rfl, hlt, hcell⟩ := h h0
    have hmap : (ps.map fun p => (⟨p.toArray⟩ : ByteArray)).map (·.data.toList) = ps := by
      rw [List.map_map]
      conv => rhs; rw [← List.map_id ps]
      rfl
    have hj := Tryd.strings_Join b off c (ps.map fun p => ⟨p.toArray⟩) ⟨#[32]⟩ w (fun j x hx => by
      rw [List.getElem?_map] at hx
      obtain ⟨p, hp, rfl⟩ := Option.map_eq_some_iff.1 hx
      obtain ⟨hj, rfl⟩ := List.getElem?_eq_some_iff.1 hp
      rw [hcell j hj]
      unfold piece
      rw [List.getD_eq_getElem?_getD, List.getElem?_eq_getElem hj]
      rfl) hlt (by rw [List.length_map]; omega) (by rw [List.length_map]; exact hc) (by
      rw [hmap]
      show (Lib.join ps [32]).length ≤ _
      rw [joinL_lib]
      omega)
    rw [hmap, List.length_map] at hj
    refine hj.mono fun e w' ⟨he, hb⟩ => ⟨?_, hb⟩
    rw [he]
    show Ending.returned (.string ⟨(Lib.join ps [32]).toArray⟩) = _
    rw [joinL_lib]
  · obtain rfl : ps = [] := List.length_eq_zero_iff.1 (by omega)
    exact (Tryd.strings_Join_none A c ⟨#[32]⟩ w).mono fun e w' ⟨he, hw⟩ => ⟨he, by rw [hw]; exact Below.refl _ _⟩

theorem map_snoc {t : List Int} {k : Nat} (hk : k < t.length) : (t.take (k + 1)).map hexL = (t.take k).map hexL ++ [hexL (nth t k)] := by
  rw [List.take_succ_eq_append_getElem hk, List.map_append, nth_lt hk]
  rfl

set_option maxHeartbeats 1000000 in
set_option maxRecDepth 100000 in
theorem esCodes (zs : List Int) (A : Option Addr) (cap : Nat) (w : World) (hA : IntsAt w A zs) (hl : zs.length ≤ 100000) (hD : Dig w) :
    Calls Tryd.prog 20 #[.slice A zs.length cap] w fun e w' => e = .returned (codesV zs) ∧ Below w.heap.size w w' := by
  have HV := Lib.hid (esValid zs A cap w hA (by omega))
  cases hv : allValid zs
  · have HR := Lib.hid (show codesV zs = strErr [] 1 by rw [codesV, hv]; rfl)
    have HA := Lib.hid hA
    have HD := Lib.hid hD
    have Hv := Lib.hid hv
    clear hA hD hv
    go_enter Tryd.func20, Tryd.ntmps20
    go_wp2_with fail
    refine HV.out.mono ?_
    rintro e w1 ⟨rfl, rfl⟩
    rw [Hv.out]
    go_wp2_with fail
    go_ret2
    exact ⟨by rw [HR.out]; rfl, Below.refl _ _⟩
  · have HR := Lib.hid (show codesV zs = strErr (codesL zs) 0 by rw [codesV, hv]; rfl)
    have hcl := codesL_le zs
    have HA := Lib.hid hA
    have HD := Lib.hid hD
    have Hv := Lib.hid hv
    clear hA hD hv
    go_enter Tryd.func20, Tryd.ntmps20
    go_wp2_with fail
    refine HV.out.mono ?_
    rintro e w1 ⟨rfl, rfl⟩
    rw [Hv.out]
    go_wp2_with fail
    go_loopw [4, 12] (fun o i wr => ∃ (k : Nat) (ps : List (List UInt8)), k ≤ zs.length ∧ i = .int .i64 k ∧ Hid (OwnS wr w.heap.size o ps) ∧ ps.length ≤ k ∧ Hid (ps = (zs.take k).map hexL) ∧ Below w.heap.size w wr) (fun _ i _ => zs.length - (intOf i).toNat)
    case atStart => exact ⟨0, [], Nat.zero_le _, rfl, Lib.hid (OwnS.nil _ _), by simp, Lib.hid rfl, Below.refl _ _⟩
    case round =>
      obtain ⟨k, ps, hk, rfl, HO, hps, HE, hbr⟩ := hrel
      by_cases hlt : k < zs.length
      · obtain ⟨b, off, rfl, hb, hc⟩ := (HA.out.keep hbr).at_ (k := k) hlt
        have HS := Lib.hid (show ps ++ [hexL (nth zs k)] = (zs.take (k + 1)).map hexL by rw [map_snoc hlt, HE.out])
        generalize nth zs k = x at hc HS
        go_wp2_with fail
        refine (cpHex x wr (HD.out.keep hbr)).mono ?_
        rintro e w2 ⟨rfl, hb2⟩
        have hsz2 : w.heap.size ≤ w2.heap.size := by have h1 := hbr.size; have h2 := hb2.size; omega
        go_wp2_with (at_builtin; refine wpS rfl _ _ rfl w.heap.size rfl (HO.out.keep hb2) (hexL x) rfl ?c1 hsz2 ?_)
        case c1 => omega
        intro v' w3 hown3 hb3
        have hb4 := hb3 w (bUp hbr hb2)
        clear hb3
        go_wp2_with fail
        go_roundw
        case rel => exact ⟨k + 1, _, by omega, by go_num, hown3, by simp; omega, HS, hb4⟩
        case measure => simp [intOf]; omega
      · have HS := Lib.hid (show codesL zs = joinL ps by rw [codesL, HE.out, List.take_of_length_le (by omega)])
        obtain ⟨A', c', rfl, hc', _⟩ := HO.out.form
        have HSt := Lib.hid HO.out.strs
        have hjl : (joinL ps).length ≤ 1000000000 := by rw [← HS.out]; omega
        go_wp2_with fail
        refine (esJoin ps A' c' _ HSt.out hc' (by omega) hjl).mono ?_
        rintro e w2 ⟨rfl, hb2⟩
        go_wp2_with fail
        go_ret2
        exact ⟨by rw [HR.out, HS.out]; rfl, bUp hbr hb2⟩

theorem blank_ba (d e : List UInt8) : (⟨d.toArray⟩ : ByteArray) ++ ⟨#[32]⟩ ++ ⟨e.toArray⟩ = ⟨(d ++ 32 :: e).toArray⟩ := by
  have h1 : (⟨d.toArray⟩ : ByteArray) ++ ⟨#[32]⟩ = ⟨(d ++ [32]).toArray⟩ := ba_app d [32]
  rw [h1, ba_app]
  simp

set_option maxHeartbeats 1000000 in
set_option maxRecDepth 100000 in
theorem rfCodes (zs : List Int) (A : Option Addr) (cap : Nat) (w : World) (hA : IntsAt w A zs) (hl : zs.length ≤ 100000) :
    Calls Tryd.prog 21 #[.slice A zs.length cap] w fun e w' => e = .returned (codesV zs) ∧ w = w' := by
  have HA := Lib.hid hA
  clear hA
  go_enter Tryd.func21, Tryd.ntmps21
  go_wp2_with fail
  go_loop [4, 5] (fun o i => ∃ k : Nat, k ≤ zs.length ∧ i = .int .i64 k ∧ o = .string ⟨(codesL (zs.take k)).toArray⟩ ∧ Hid (allValid zs = allValid (zs.drop k))) (fun _ i => zs.length - (intOf i).toNat)
  case atStart => exact ⟨0, Nat.zero_le _, rfl, rfl, Lib.hid rfl⟩
  case round =>
    obtain ⟨k, hk, rfl, rfl, HE⟩ := hrel
    have hpl : (codesL (zs.take k)).length ≤ 700000 := by
      have := codesL_le (zs.take k)
      rw [List.length_take] at this
      omega
    by_cases hlt : k < zs.length
    · obtain ⟨b, off, rfl, hb, hc⟩ := HA.out.at_ (k := k) hlt
      have hE := HE.out
      rw [drop_nth hlt, allValid_cons] at hE
      cases hv : validB (nth zs k)
      · rw [hv, Bool.false_and] at hE
        have HR := Lib.hid (show codesV zs = strErr [] 1 by rw [codesV, hE]; rfl)
        generalize codesL (zs.take k) = acc at hpl
        have HE := Lib.hid hE
        have Hv := Lib.hid hv
        clear hE hv
        go_wp2_with (go_at_call 27; refine (rfValid _ _).mono ?_; rintro e w' ⟨rfl, rfl⟩; rw [Hv.out])
        go_ret2
        exact ⟨by rw [HR.out]; rfl, rfl⟩
      · rw [hv, Bool.true_and] at hE
        have hhl := hexL_length_le (nth zs k)
        have HE := Lib.hid hE
        have Hv := Lib.hid hv
        clear hE hv
        by_cases h0 : 0 < k
        · have p1 : decide ((0 : Int) < k) = true := by simp; omega
          have HS := Lib.hid (show codesL (zs.take (k + 1)) = codesL (zs.take k) ++ 32 :: hexL (nth zs k) by
            unfold codesL
            rw [map_snoc hlt, joinL_snoc]
            intro h
            have h' : ((zs.take k).map hexL).length = 0 := by rw [h]; rfl
            rw [List.length_map, List.length_take] at h'
            omega)
          generalize codesL (zs.take k) = acc at hpl HS
          go_wp2_with (first | (go_at_call 27; refine (rfValid _ _).mono ?_; rintro e w' ⟨rfl, rfl⟩; rw [Hv.out]) | (go_at_call 18; refine (rfHex _ _).mono ?_; rintro e w' ⟨rfl, rfl⟩))
          go_round
          case rel => exact ⟨k + 1, by omega, by go_num, by rw [HS.out, blank_ba], HE⟩
          case measure => simp [intOf]; omega
        · obtain rfl : k = 0 := by omega
          rw [Nat.add_zero] at hc
          have HS := Lib.hid (show codesL (zs.take (0 + 1)) = hexL (nth zs 0) by
            unfold codesL
            rw [map_snoc hlt]
            rfl)
          have HN := Lib.hid (show codesL (zs.take 0) = [] by rfl)
          rw [HN.out]
          clear hpl
          go_wp2_with (first | (go_at_call 27; refine (rfValid _ _).mono ?_; rintro e w' ⟨rfl, rfl⟩; rw [Hv.out]) | (go_at_call 18; refine (rfHex _ _).mono ?_; rintro e w' ⟨rfl, rfl⟩))
          go_round
          case rel => exact ⟨1, by omega, rfl, by rw [HS.out]; exact congrArg Value.string (ba_app [] (hexL (nth zs 0))), HE⟩
          case measure => simp [intOf]; omega
    · have HE' := Lib.hid (show codesV zs = strErr (codesL (zs.take k)) 0 by rw [codesV, HE.out, List.drop_of_length_le (by omega), List.take_of_length_le (by omega)]; rfl)
      generalize codesL (zs.take k) = acc at hpl HE'
      go_wp2_with fail
      go_ret2
      exact ⟨by rw [HE'.out]; rfl, rfl⟩
end Go.Proofs.YtgkogbjlbcllmaaDoor
