/- lines: Split, Has, comment, spanned of the reference; cut, codes of the program. -/
import Derived.Test.YtafmdeipcepaiaaDoorLn2
namespace Go.Proofs.YtafmdeipcepaiaaDoor
open Go.RowKit Go.Sort

set_option maxHeartbeats 1000000 in
set_option maxRecDepth 100000 in
theorem rfSplit9 (c : UInt8) (l : List UInt8) (w : World) (hl : l.length ≤ 65536) :
    Calls Tryd.prog 14 #[.string ⟨l.toArray⟩, .int .u8 c.toNat] w fun e w' => (∃ A cp, e = .returned (.slice A (splitL c l).length cp) ∧ StrsAt w' A (splitL c l) ∧ ∀ b off, A = some ⟨b, off, none⟩ → w.heap.size ≤ b) ∧ Below w.heap.size w w' := by
  have hcn : c.toNat < 256 := UInt8.toNat_lt c
  go_enter Tryd.func14, Tryd.ntmps14
  go_wp2_with fail
  go_loopw [5, 6, 7] (fun v f i wr => ∃ (j k : Nat) (done : List (List UInt8)), j ≤ k ∧ k ≤ l.length ∧ done.length ≤ k ∧ f = .int .i64 j ∧ i = .int .i64 k ∧ Hid (OwnS wr w.heap.size v done) ∧ Hid (splitL c l = done ++ glue (seg l j k) (splitL c (l.drop k))) ∧ Below w.heap.size w wr) (fun _ _ i _ => l.length - (intOf i).toNat)
  case atStart => exact ⟨0, 0, [], by omega, by omega, by simp, rfl, rfl, Lib.hid (OwnS.nil _ _), Lib.hid (by rw [seg_self, glue_nil]; rfl), Below.refl _ _⟩
  case round =>
    obtain ⟨j, k, done, hjk, hk, hdl, rfl, rfl, HO, HS, hbr⟩ := hrel
    have hsz := hbr.size
    by_cases hlt : k < l.length
    · have hbt := btN_lt l k
      have hki : (k : Int) < l.length := by omega
      have hji : (j : Int) ≤ k := by omega
      have hki2 : (k : Int) ≤ l.length := by omega
      by_cases hb : btN l k = c.toNat
      · have hb' : ((btN l k : Int) == (c.toNat : Int)) = true := by simp; omega
        have hb2 : l[k] = c := by
          rw [btN_get hlt] at hb
          exact UInt8.toNat_inj.1 hb
        have HS' := Lib.hid (split_hit hlt hb2 HS.out)
        clear hb2 hb
        go_wp2_with (at_builtin; refine wpS rfl _ _ rfl w.heap.size rfl HO.out (seg l j k) rfl ?c1 hsz ?_)
        case c1 => omega
        intro v' w2 HO' hb3
        have hb2 := hb3 w hbr
        clear hb3
        go_wp2_with fail
        go_roundw
        case rel => exact ⟨k + 1, k + 1, _, by omega, by omega, by simp; omega, by go_num, by go_num, HO', HS', hb2⟩
        case measure => simp [intOf]; omega
      · have hb' : ((btN l k : Int) == (c.toNat : Int)) = false := by simp; omega
        have hb2 : ¬ l[k] = c := by
          intro e
          rw [btN_get hlt, e] at hb
          exact hb rfl
        have HS' := Lib.hid (split_miss hjk hlt hb2 HS.out)
        clear hb2 hb
        go_wp2_with fail
        go_roundw
        case rel => exact ⟨j, k + 1, done, by omega, by omega, by omega, rfl, by go_num, HO, HS', hbr⟩
        case measure => simp [intOf]; omega
    · obtain rfl : k = l.length := by omega
      have HS' := Lib.hid (split_end HS.out)
      have hsl := strSliceLo l hjk
      have HG := Lib.hid (seg_end l j)
      clear HS
      rw [HG.out] at HS'
      generalize l.drop j = d at hsl HS'
      go_wp2_with (at_builtin; refine wpS rfl _ _ rfl w.heap.size rfl HO.out d rfl ?c2 hsz ?_)
      case c2 => omega
      intro v' w2 HO' hb3
      have hb2 := hb3 w hbr
      clear hb3
      obtain ⟨A', c', rfl, _, _⟩ := HO'.out.form
      go_wp2_with fail
      go_ret
      rw [HS'.out]
      exact ⟨⟨A', c', rfl, HO'.out.strs, HO'.out.blk⟩, hb2⟩

set_option maxHeartbeats 2000000 in
set_option maxRecDepth 100000 in
theorem lnCut (l : List UInt8) (w : World) (hl : l.length ≤ 65536) :
    Calls Tryd.prog 24 #[.string ⟨l.toArray⟩] w fun e w' => (∃ A cp, e = .returned (.slice A ((splitL 59 l).map trimL).length cp) ∧ OwnS w' w.heap.size (.slice A ((splitL 59 l).map trimL).length cp) ((splitL 59 l).map trimL)) ∧ Below w.heap.size w w' := by
  go_enter Tryd.func24, Tryd.ntmps24
  go_wp2_with fail
  go_step3
  go_wp2_with fail
  go_step3
  go_wp2_with fail
  go_loopw [3, 4, 5] (fun v f i wr => ∃ (j k : Nat) (done : List (List UInt8)), j ≤ k ∧ k ≤ l.length ∧ done.length ≤ k ∧ f = .int .i64 j ∧ i = .int .i64 k ∧ Hid (OwnS wr w.heap.size v (done.map trimL)) ∧ Hid (splitL 59 l = done ++ glue (seg l j k) (splitL 59 (l.drop k))) ∧ Below w.heap.size w wr) (fun _ _ i _ => l.length + 1 - (intOf i).toNat)
  case atStart => exact ⟨0, 0, [], by omega, by omega, by simp, rfl, rfl, Lib.hid (OwnS.nil _ _), Lib.hid (by rw [seg_self, glue_nil]; rfl), Below.refl _ _⟩
  case round =>
    obtain ⟨j, k, done, hjk, hk, hdl, rfl, rfl, HO, HS, hbr⟩ := hrel
    have hsz := hbr.size
    have hml : (done.map trimL).length ≤ k := by rw [List.length_map]; exact hdl
    by_cases hlt : k < l.length
    · have hbt := btN_lt l k
      have hki : (k : Int) < l.length := by omega
      have hne : ((k : Int) == l.length) = false := by rw [beq_eq_false_iff_ne]; omega
      have hji : (j : Int) ≤ k := by omega
      have hki2 : (k : Int) ≤ l.length := by omega
      by_cases hb : btN l k = 59
      · have hb' : ((btN l k : Int) == 59) = true := by simp; omega
        have hb2 : l[k] = 59 := by
          rw [btN_get hlt] at hb
          exact UInt8.toNat_inj.1 hb
        have HS' := Lib.hid (split_hit hlt hb2 HS.out)
        have hsl : (seg l j k).length ≤ 65536 := by rw [seg_length (by omega)]; omega
        have HT := Lib.hid (fun w' => goTrim (seg l j k) w' (by omega))
        clear hb2 hb
        go_wp2_with fail
        refine (HT.out _).mono ?_
        rintro e w2 ⟨rfl, hb2⟩
        have hsz2 : w.heap.size ≤ w2.heap.size := Nat.le_trans hsz hb2.size
        go_wp2_with (at_builtin; refine wpS rfl _ _ rfl w.heap.size rfl (HO.out.keep hb2) (trimL (seg l j k)) rfl ?c1 hsz2 ?_)
        case c1 => omega
        intro v' w3 HO' hb3
        have hb4 := hb3 w (bUp hbr hb2)
        have HO2 := Lib.hid (show OwnS w3 w.heap.size v' ((done ++ [seg l j k]).map trimL) by rw [List.map_append]; exact HO'.out)
        clear hb3 HO'
        go_wp2_with fail
        go_roundw
        case rel => exact ⟨k + 1, k + 1, _, by omega, by omega, by simp; omega, by go_num, by go_num, HO2, HS', hb4⟩
        case measure => simp [intOf]; omega
      · have hb' : ((btN l k : Int) == 59) = false := by simp; omega
        have hb2 : ¬ l[k] = 59 := by
          intro e
          rw [btN_get hlt, e] at hb
          exact hb rfl
        have HS' := Lib.hid (split_miss hjk hlt hb2 HS.out)
        clear hb2 hb
        go_wp2_with fail
        go_roundw
        case rel => exact ⟨j, k + 1, done, by omega, by omega, by omega, rfl, by go_num, HO, HS', hbr⟩
        case measure => simp [intOf]; omega
    · obtain rfl : k = l.length := by omega
      have hne : ((l.length : Int) == l.length) = true := by simp
      have HS' := Lib.hid (split_end HS.out)
      have hsl := strSliceLo l hjk
      have HG := Lib.hid (seg_end l j)
      clear HS
      rw [HG.out] at HS'
      have hdl2 : (l.drop j).length ≤ 65536 := by rw [List.length_drop]; omega
      generalize l.drop j = d at hsl HS' hdl2
      have HT := Lib.hid (fun w' => goTrim d w' (by omega))
      go_wp2_with fail
      refine (HT.out _).mono ?_
      rintro e w2 ⟨rfl, hb2⟩
      have hsz2 : w.heap.size ≤ w2.heap.size := Nat.le_trans hsz hb2.size
      go_wp2_with (at_builtin; refine wpS rfl _ _ rfl w.heap.size rfl (HO.out.keep hb2) (trimL d) rfl ?c2 hsz2 ?_)
      case c2 => omega
      intro v' w3 HO' hb3
      have hb4 := hb3 w (bUp hbr hb2)
      have HO2 := Lib.hid (show OwnS w3 w.heap.size v' ((splitL 59 l).map trimL) by rw [HS'.out, List.map_append]; exact HO'.out)
      clear hb3 HO'
      generalize hps : (splitL 59 l).map trimL = ps at HO2
      have Hps := Lib.hid hps
      clear hps
      obtain ⟨A', c', rfl, _, _⟩ := HO2.out.form
      go_wp2_with fail
      (try rw [Exit.noGoto_ret])
      go_ret
      rw [Hps.out]
      exact ⟨⟨A', c', rfl, HO2.out⟩, hb4⟩

/-- the first two dots -/
def cutDD : List UInt8 → Option (List UInt8 × List UInt8)
  | [] => none
  | a :: l => if a = 46 ∧ l.head? = some 46 then some ([], l.drop 1) else (cutDD l).map fun p => (a :: p.1, p.2)
theorem cutDD_some : ∀ {l a r : List UInt8}, cutDD l = some (a, r) → l = a ++ 46 :: 46 :: r
  | [], a, r, h => by simp [cutDD] at h
  | b :: l, a, r, h => by
    unfold cutDD at h
    split at h
    · rename_i hb
      simp only [Option.some.injEq, Prod.mk.injEq] at h
      obtain ⟨rfl, rfl⟩ := h
      obtain ⟨rfl, h2⟩ := hb
      cases l with
      | nil => simp at h2
      | cons c t => simp at h2; subst h2; rfl
    · cases hc : cutDD l with
      | none => rw [hc] at h; simp at h
      | some p =>
        rw [hc] at h
        simp only [Option.map_some, Option.some.injEq, Prod.mk.injEq] at h
        obtain ⟨rfl, rfl⟩ := h
        have := cutDD_some (a := p.1) (r := p.2) hc
        rw [List.cons_append, ← this]
theorem index_dd : ∀ l, Lib.index l [46, 46] = match cutDD l with | some p => (p.1.length : Int) | none => -1
  | [] => by simp [Lib.index, cutDD]
  | b :: l => by
    have hp : ([46, 46] : List UInt8).isPrefixOf (b :: l) = decide (b = 46 ∧ l.head? = some 46) := by
      cases l with
      | nil => simp [List.isPrefixOf]
      | cons c t =>
        rw [Bool.eq_iff_iff]
        simp only [List.isPrefixOf, Bool.and_true, Bool.and_eq_true, beq_iff_eq, List.head?_cons, Option.some.injEq, decide_eq_true_eq]
        exact ⟨fun h => ⟨h.1.symm, h.2.symm⟩, fun h => ⟨h.1.symm, h.2.symm⟩⟩
    unfold Lib.index cutDD
    rw [hp, index_dd l]
    by_cases hb : b = 46 ∧ l.head? = some 46
    · simp [hb]
    · rw [if_neg hb]
      rw [if_neg (by simpa using hb)]
      cases hc : cutDD l with
      | none => simp
      | some p => simp
theorem lib_dd (l : List UInt8) : Lib.cut l [46, 46] = match cutDD l with | some p => (p.1, p.2, true) | none => (l, [], false) := by
  unfold Lib.cut
  rw [index_dd]
  cases hc : cutDD l with
  | none => simp
  | some p =>
    obtain ⟨a, r⟩ := p
    have e := cutDD_some hc
    simp [e]
/-- the ends of a range -/
def spanP (l : List UInt8) : Option (Int × Int) :=
  match cutDD l with
  | some p => (match parseCp p.1, parseCp p.2 with | some x, some y => if x ≤ y then some (x, y) else none | _, _ => none)
  | none => (match parseCp l with | some x => some (x, x) | none => none)
def spanV (l : List UInt8) : Value := match spanP l with | some p => .tuple #[.int .i64 p.1, .int .i64 p.2, .bool true] | none => .tuple #[.int .i64 0, .int .i64 0, .bool false]

set_option maxHeartbeats 2000000 in
set_option maxRecDepth 100000 in
theorem lnCodes (l : List UInt8) (w : World) (hE : Env w) (hl : l.length ≤ 65536) :
    Calls Tryd.prog 25 #[.string ⟨l.toArray⟩] w fun e w' => e = .returned (spanV l) ∧ Below w.heap.size w w' := by
  obtain ⟨m, hm⟩ := hE.mx
  have hcut := Tryd.strings_Cut ⟨l.toArray⟩ ⟨#[46, 46]⟩ m w (by show l.length < _; omega) hm
  have hcc : Lib.cut (⟨l.toArray⟩ : ByteArray).data.toList (⟨#[46, 46]⟩ : ByteArray).data.toList = Lib.cut l [46, 46] := rfl
  rw [hcc, lib_dd] at hcut
  clear hcc hm
  cases hc : cutDD l with
  | none =>
    rw [hc] at hcut
    have HP := Lib.hid (fun w' (hb : Below w.heap.size w w') => cpParse l w' (hE.keep hb).dig (by omega))
    cases hp : parseCp l with
    | none =>
      rw [parseV_none hp] at HP
      have HV := Lib.hid (show spanV l = .tuple #[.int .i64 0, .int .i64 0, .bool false] by simp [spanV, spanP, hc, hp])
      have Hcut := Lib.hid hcut
      have Hc := Lib.hid hc
      have Hp := Lib.hid hp
      have HE := Lib.hid hE
      clear hcut hc hp hE
      go_enter Tryd.func25, Tryd.ntmps25
      go_wp2_with fail
      refine Hcut.out.mono ?_
      rintro e w1 ⟨rfl, n, rfl⟩
      have hb1 : Below w.heap.size w (w.drewN n) := below_drewN n
      generalize w.drewN n = w1 at hb1 ⊢
      dsimp only
      go_wp2_with fail
      refine (HP.out _ hb1).mono ?_
      rintro e w2 ⟨rfl, hb2⟩
      go_wp2_with fail
      refine (HP.out _ (bUp hb1 hb2)).mono ?_
      rintro e w3 ⟨rfl, hb3⟩
      go_wp2_with fail
      go_ret3
      exact ⟨by rw [HV.out]; rfl, bUp (bUp hb1 hb2) hb3⟩
    | some x =>
      rw [parseV_some hp] at HP
      have HV := Lib.hid (show spanV l = .tuple #[.int .i64 x, .int .i64 x, .bool true] by simp [spanV, spanP, hc, hp])
      have Hcut := Lib.hid hcut
      have Hc := Lib.hid hc
      have Hp := Lib.hid hp
      have HE := Lib.hid hE
      clear hcut hc hp hE
      go_enter Tryd.func25, Tryd.ntmps25
      go_wp2_with fail
      refine Hcut.out.mono ?_
      rintro e w1 ⟨rfl, n, rfl⟩
      have hb1 : Below w.heap.size w (w.drewN n) := below_drewN n
      generalize w.drewN n = w1 at hb1 ⊢
      dsimp only
      go_wp2_with fail
      refine (HP.out _ hb1).mono ?_
      rintro e w2 ⟨rfl, hb2⟩
      go_wp2_with fail
      refine (HP.out _ (bUp hb1 hb2)).mono ?_
      rintro e w3 ⟨rfl, hb3⟩
      go_wp2_with fail
      go_ret3
      exact ⟨by rw [HV.out]; rfl, bUp (bUp hb1 hb2) hb3⟩
  | some p =>
    obtain ⟨a, r⟩ := p
    rw [hc] at hcut
    dsimp only at hcut
    have hlen := congrArg List.length (cutDD_some hc)
    simp only [List.length_append, List.length_cons] at hlen
    have hla : a.length ≤ 65536 := by omega
    have hlr : r.length ≤ 65536 := by omega
    have HP := Lib.hid (fun w' (hb : Below w.heap.size w w') => cpParse a w' (hE.keep hb).dig (by omega))
    have HQ := Lib.hid (fun w' (hb : Below w.heap.size w w') => cpParse r w' (hE.keep hb).dig (by omega))
    clear hlen
    obtain ⟨x, e1, hx⟩ : ∃ x e1, parseV a = .tuple #[.int .i64 x, .int .i64 e1] := ⟨_, _, rfl⟩
    obtain ⟨y, e2, hy⟩ : ∃ y e2, parseV r = .tuple #[.int .i64 y, .int .i64 e2] := ⟨_, _, rfl⟩
    rw [hx] at HP
    rw [hy] at HQ
    have hok : (e1 = 0 ∧ e2 = 0 ∧ x ≤ y ∧ spanV l = .tuple #[.int .i64 x, .int .i64 y, .bool true]) ∨ ((e1 ≠ 0 ∨ (e1 = 0 ∧ e2 ≠ 0) ∨ (e1 = 0 ∧ e2 = 0 ∧ y < x)) ∧ spanV l = .tuple #[.int .i64 0, .int .i64 0, .bool false]) := by
      cases hpa : parseCp a with
      | none =>
        rw [parseV_none hpa] at hx
        simp only [Value.tuple.injEq, Array.mk.injEq, List.cons.injEq, Value.int.injEq, true_and, and_true] at hx
        right
        exact ⟨.inl (by omega), by simp [spanV, spanP, hc, hpa]⟩
      | some xa =>
        rw [parseV_some hpa] at hx
        simp only [Value.tuple.injEq, Array.mk.injEq, List.cons.injEq, Value.int.injEq, true_and, and_true] at hx
        obtain ⟨rfl, rfl⟩ := hx
        cases hpr : parseCp r with
        | none =>
          rw [parseV_none hpr] at hy
          simp only [Value.tuple.injEq, Array.mk.injEq, List.cons.injEq, Value.int.injEq, true_and, and_true] at hy
          right
          exact ⟨.inr (.inl ⟨rfl, by omega⟩), by simp [spanV, spanP, hc, hpa, hpr]⟩
        | some yr =>
          rw [parseV_some hpr] at hy
          simp only [Value.tuple.injEq, Array.mk.injEq, List.cons.injEq, Value.int.injEq, true_and, and_true] at hy
          obtain ⟨rfl, rfl⟩ := hy
          by_cases hxy : xa ≤ yr
          · left
            exact ⟨rfl, rfl, hxy, by simp [spanV, spanP, hc, hpa, hpr, hxy]⟩
          · right
            exact ⟨.inr (.inr ⟨rfl, rfl, by omega⟩), by simp [spanV, spanP, hc, hpa, hpr, hxy]⟩
    have Hcut := Lib.hid hcut
    have Hc := Lib.hid hc
    have HE := Lib.hid hE
    have Hx := Lib.hid hx
    have Hy := Lib.hid hy
    clear hcut hc hE hx hy
    rcases hok with ⟨rfl, rfl, hxy, hv⟩ | ⟨hbad, hv⟩
    · have Hv := Lib.hid hv
      clear hv
      go_enter Tryd.func25, Tryd.ntmps25
      go_wp2_with fail
      refine Hcut.out.mono ?_
      rintro e w1 ⟨rfl, n, rfl⟩
      have hb1 : Below w.heap.size w (w.drewN n) := below_drewN n
      generalize w.drewN n = w1 at hb1 ⊢
      go_wp2_with fail
      refine (HP.out _ hb1).mono ?_
      rintro e w2 ⟨rfl, hb2⟩
      go_wp2_with fail
      refine (HQ.out _ (bUp hb1 hb2)).mono ?_
      rintro e w3 ⟨rfl, hb3⟩
      go_wp2_with fail
      go_ret3
      exact ⟨by rw [Hv.out]; rfl, bUp (bUp hb1 hb2) hb3⟩
    · have Hv := Lib.hid hv
      clear hv
      rcases hbad with h | ⟨rfl, h⟩ | ⟨rfl, rfl, h⟩
      · have q1 : (e1 != 0) = true := by simpa using h
        have H := Lib.hid h
        clear h
        go_enter Tryd.func25, Tryd.ntmps25
        go_wp2_with fail
        refine Hcut.out.mono ?_
        rintro e w1 ⟨rfl, n, rfl⟩
        have hb1 : Below w.heap.size w (w.drewN n) := below_drewN n
        generalize w.drewN n = w1 at hb1 ⊢
        go_wp2_with fail
        refine (HP.out _ hb1).mono ?_
        rintro e w2 ⟨rfl, hb2⟩
        go_wp2_with fail
        refine (HQ.out _ (bUp hb1 hb2)).mono ?_
        rintro e w3 ⟨rfl, hb3⟩
        go_wp2_with fail
        go_ret3
        exact ⟨by rw [Hv.out]; rfl, bUp (bUp hb1 hb2) hb3⟩
      · have q1 : (e2 != 0) = true := by simpa using h
        have H := Lib.hid h
        clear h
        go_enter Tryd.func25, Tryd.ntmps25
        go_wp2_with fail
        refine Hcut.out.mono ?_
        rintro e w1 ⟨rfl, n, rfl⟩
        have hb1 : Below w.heap.size w (w.drewN n) := below_drewN n
        generalize w.drewN n = w1 at hb1 ⊢
        go_wp2_with fail
        refine (HP.out _ hb1).mono ?_
        rintro e w2 ⟨rfl, hb2⟩
        go_wp2_with fail
        refine (HQ.out _ (bUp hb1 hb2)).mono ?_
        rintro e w3 ⟨rfl, hb3⟩
        go_wp2_with fail
        go_ret3
        exact ⟨by rw [Hv.out]; rfl, bUp (bUp hb1 hb2) hb3⟩
      · go_enter Tryd.func25, Tryd.ntmps25
        go_wp2_with fail
        refine Hcut.out.mono ?_
        rintro e w1 ⟨rfl, n, rfl⟩
        have hb1 : Below w.heap.size w (w.drewN n) := below_drewN n
        generalize w.drewN n = w1 at hb1 ⊢
        go_wp2_with fail
        refine (HP.out _ hb1).mono ?_
        rintro e w2 ⟨rfl, hb2⟩
        go_wp2_with fail
        refine (HQ.out _ (bUp hb1 hb2)).mono ?_
        rintro e w3 ⟨rfl, hb3⟩
        go_wp2_with fail
        go_ret3
        exact ⟨by rw [Hv.out]; rfl, bUp (bUp hb1 hb2) hb3⟩
end Go.Proofs.YtafmdeipcepaiaaDoor
