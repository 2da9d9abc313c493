/- charset.Check -/
import Derived.Test.YthpiopjpipdgnaaDoorCs1
import Derived.Test.YthpiopjpipdgnaaDoorMaps
namespace Go.Proofs.YthpiopjpipdgnaaDoor
open Go.RowKit Go.Sort

theorem zeroBool (w : World) : (zeroValue 4).run Tryd.prog w = .ok (.bool false) w := by kernel_rfl

theorem byteL_mem (x : Int) (hx : 0 ≤ x) : ∀ (l : List Int) (i m : Nat), (i ≤ byteL x l i ∨ byteL x l i = -1) ∧ (x ∈ l → i ≤ byteL x l i) ∧ (x ∈ l → (byteL x l i < ((i + m : Nat) : Int) ↔ x ∈ l.take m))
  | [], i, m => by simp [byteL]
  | z :: r, i, m => by
    obtain ⟨h1, h2, h3⟩ := byteL_mem x hx r (i + 1) (m - 1)
    unfold byteL
    by_cases hz : z = x
    · rw [if_pos ⟨hx, hz⟩]
      refine ⟨.inl (Int.le_refl _), fun _ => Int.le_refl _, fun _ => ?_⟩
      cases m with
      | zero => simp
      | succ m => simp [hz]; omega
    · rw [if_neg (fun h => hz h.2)]
      refine ⟨?_, ?_, ?_⟩
      · rcases h1 with h1 | h1
        · left; omega
        · right; exact h1
      · intro h
        have := h2 (by simpa [Ne.symm hz] using h)
        omega
      · intro h
        have hm : x ∈ r := by simpa [Ne.symm hz] using h
        have h2' := h2 hm
        have h3' := h3 hm
        cases m with
        | zero => simp; omega
        | succ m =>
          simp only [List.take_succ_cons, List.mem_cons, Ne.symm hz, false_or]
          rw [show (i + (m + 1) : Nat) = (i + 1 + (m + 1 - 1) : Nat) by omega]
          exact h3'

/-- a code that is no scalar is -1, if there is no error of range -/
theorem wf_of_range {zs : List Int} (h : rangeBad zs = false) : ∀ z ∈ zs, z = -1 ∨ (0 ≤ z ∧ z ≤ 1114111 ∧ scalarB z = true) := by
  intro z hz
  unfold rangeBad at h
  have := (List.any_eq_false.1 h) z hz
  by_cases he : z = -1
  · exact .inl he
  · right
    have hs : scalarB z = true := by simpa [he] using this
    have hv : validB z = true := by unfold scalarB at hs; simp at hs; exact hs.1
    unfold validB at hv
    have := of_decide_eq_true hv
    exact ⟨this.1, this.2, hs⟩

theorem nth_mem {zs : List Int} {k : Nat} (h : k < zs.length) : nth zs k ∈ zs := by rw [nth_lt h]; exact List.getElem_mem h

/-- the set of the codes so far answers as the reference does -/
theorem seen_twice {zs : List Int} {m : Nat} (hm : m < zs.length) (hr : rangeBad zs = false) (he : nth zs m ≠ -1) :
    decide (nth zs m ∈ zs.take m) = (decide (0 ≤ nth zs m) && decide (byteL (nth zs m) zs 0 < m)) := by
  have h0 : 0 ≤ nth zs m := by rcases wf_of_range hr _ (nth_mem hm) with h | h; exact absurd h he; exact h.1
  have := (byteL_mem (nth zs m) h0 zs 0 m).2.2 (nth_mem hm)
  rw [Bool.eq_iff_iff]
  simp only [Nat.zero_add] at this
  simp [h0, this]

theorem set_snoc {zs : List Int} {m : Nat} (hm : m < zs.length) : (fun y => y == nth zs m || decide (y ∈ zs.take m)) = fun y => decide (y ∈ zs.take (m + 1)) := by
  funext y
  rw [List.take_succ_eq_append_getElem hm, ← nth_lt hm, Bool.eq_iff_iff]
  simp
  constructor <;> (intro h; rcases h with h | h <;> simp [h])

set_option maxRecDepth 100000 in
theorem csCheck (zs : List Int) (A : Option Addr) (cap : Nat) (w : World) (hA : IntsAt w A zs) (hl : zs.length ≤ 300) :
    Calls Tryd.prog 12 #[.agg #[.slice A zs.length cap]] w fun e w' => e = .returned (.int .i64 (checkC zs)) ∧ Below w.heap.size w w' := by
  have HA := Lib.hid hA
  clear hA
  have hmm := @run_makeMap Tryd.prog
  by_cases hn : zs.length = 256
  · have hne : ((zs.length : Int) != 256) = false := by simp; omega
    have HN := Lib.hid hn
    have hn1 : zs.length ≤ 256 := by omega
    have hn2 : 256 ≤ zs.length := by omega
    clear hn
    go_enter Tryd.func12, Tryd.ntmps12
    go_wp2_with fail
    go_loop [15] (fun i => ∃ k : Nat, k ≤ zs.length ∧ i = .int .i64 k ∧ Hid (rangeBad zs = rangeBad (zs.drop k))) (fun i => zs.length - (intOf i).toNat)
    case atStart => exact ⟨0, Nat.zero_le _, rfl, rfl⟩
    case round =>
      obtain ⟨k, hk, rfl, HB⟩ := hrel
      by_cases hlt : k < zs.length
      · obtain ⟨b, off, rfl, hb, hc⟩ := HA.out.at_ (k := k) (by omega)
        have hd := drop_nth (zs := zs) (k := k) (by omega)
        by_cases he : nth zs k = -1
        · have he' : (nth zs k != -1) = false := by simpa using he
          have He := Lib.hid he
          have Hd := Lib.hid hd
          clear he hd
          go_wp2_with fail
          go_round
          case rel => exact ⟨k + 1, by omega, by go_num, Lib.hid (by rw [HB.out, Hd.out, rangeBad_cons]; simp [He.out])⟩
          case measure => simp [intOf]; omega
        · have he' : (nth zs k != -1) = true := by simpa using he
          have He := Lib.hid he
          have Hd := Lib.hid hd
          clear he hd
          cases hs : scalarB (nth zs k)
          · have Hs := Lib.hid hs
            clear hs
            go_wp2_with (go_at_call 27; refine (cpScalar _ _).mono ?_; rintro e w' ⟨rfl, rfl⟩; rw [Hs.out])
            go_ret
            refine ⟨ret_int ?_, bBox _ _⟩
            have : rangeBad zs = true := by rw [HB.out, Hd.out, rangeBad_cons]; simp [Hs.out, He.out]
            simp [checkC, HN.out, this]
          · have Hs := Lib.hid hs
            clear hs
            go_wp2_with (go_at_call 27; refine (cpScalar _ _).mono ?_; rintro e w' ⟨rfl, rfl⟩; rw [Hs.out])
            go_round
            case rel => exact ⟨k + 1, by omega, by go_num, Lib.hid (by rw [HB.out, Hd.out, rangeBad_cons]; simp [Hs.out])⟩
            case measure => simp [intOf]; omega
      · have HR : Hid (rangeBad zs = false) := Lib.hid (by rw [HB.out, List.drop_of_length_le (by omega)]; rfl)
        clear HB
        go_wp2_with fail
        go_loopw [31] (fun i wr => ∃ m : Nat, m ≤ zs.length ∧ i = .int .i64 m ∧ Hid (twiceFrom zs zs 0 = twiceFrom zs (zs.drop m) m) ∧ SetMap Tryd.prog 3 4 wr (w.heap.size + 1) m (fun y => decide (y ∈ zs.take m)) ∧ Below (w.heap.size + 1) (w.alloc (.cells #[.slice A zs.length cap] 24)) wr) (fun i _ => zs.length - (intOf i).toNat)
        case atStart =>
          refine ⟨0, Nat.zero_le _, rfl, rfl, ?_, (Below.refl _ _).alloc (by simp) _⟩
          have := SetMap.made (w.alloc (.cells #[.slice A zs.length cap] 24)) Tryd.prog 3 4
          simpa using this
        case round =>
          obtain ⟨m, hm, rfl, HB, hset, hbel⟩ := hrel
          by_cases hlt : m < zs.length
          · obtain ⟨b, off, rfl, hb, hc⟩ := HA.out.at_ (k := m) (by omega)
            have hd := drop_nth (zs := zs) (k := m) (by omega)
            have hcm : wr.cell? ⟨b, off + m, none⟩ = some (.int .i64 (nth zs m)) := (hbel.cell (p := ⟨b, off + m, none⟩) (Nat.lt_succ_of_lt hb)).trans ((World.cell?_alloc_lt _ _ _ hb).trans hc)
            have hwf : (Lit.int .i64 (nth zs m)).wf = true := by
              rcases wf_of_range HR.out _ (nth_mem hlt) with h | ⟨h1, h2, _⟩
              · exact wfI (by omega) (by omega)
              · exact wfI (by omega) (by omega)
            have hlook := hset.look (t := 49) Tryd.underlying3 Tryd.underlying49 Tryd.underlying4 (zeroBool wr) hwf
            obtain ⟨w1, hupd, hset1, hg1⟩ := hset.store (t := 49) Tryd.underlying3 Tryd.underlying49 Tryd.underlying4 (by unfold maxLen; omega) hwf
            rw [set_snoc hlt] at hset1
            have hb1 : Below (w.heap.size + 1) (w.alloc (.cells #[.slice (some ⟨b, off, none⟩) zs.length cap] 24)) w1 := hbel.grown hg1 (by simpa using hbel.size) (by intro k hk; cases hk; exact Nat.le_refl _)
            by_cases he : nth zs m = -1
            · have he' : (nth zs m != -1) = false := by simpa using he
              have He := Lib.hid he
              have Hd := Lib.hid hd
              have Hset := Lib.hid hset
              have Hset1 := Lib.hid hset1
              have Hwf := Lib.hid hwf
              clear he hd hset hset1 hwf
              go_wp2_with fail
              go_roundw
              case rel => exact ⟨m + 1, by omega, by go_num, Lib.hid (by rw [HB.out, Hd.out, twiceFrom]; simp [He.out]), Hset1.out, hb1⟩
              case measure => simp [intOf]; omega
            · have he' : (nth zs m != -1) = true := by simpa using he
              have hst := seen_twice hlt HR.out he
              cases hq : decide (nth zs m ∈ zs.take m)
              · rw [hq] at hlook hst
                have He := Lib.hid he
                have Hd := Lib.hid hd
                have Hset := Lib.hid hset
                have Hset1 := Lib.hid hset1
                have Hwf := Lib.hid hwf
                have Hst := Lib.hid hst
                have Hq := Lib.hid hq
                clear he hd hset hset1 hwf hst hq
                go_wp2_with fail
                go_roundw
                case rel => exact ⟨m + 1, by omega, by go_num, Lib.hid (by rw [HB.out, Hd.out, twiceFrom, ← Hst.out]; simp), Hset1.out, hb1⟩
                case measure => simp [intOf]; omega
              · rw [hq] at hlook hst
                have He := Lib.hid he
                have Hd := Lib.hid hd
                have Hset := Lib.hid hset
                have Hset1 := Lib.hid hset1
                have Hwf := Lib.hid hwf
                have Hst := Lib.hid hst
                have Hq := Lib.hid hq
                clear he hd hset hset1 hwf hst hq
                go_wp2_with fail
                go_ret
                have : twiceFrom zs zs 0 = true := by rw [HB.out, Hd.out, twiceFrom, ← Hst.out]; simp
                exact ⟨ret_int (by simp [checkC, HN.out, HR.out, this]), (bBox _ _).trans (hbel.mono (by omega))⟩
          · go_wp2_with fail
            go_ret
            have : twiceFrom zs zs 0 = false := by rw [HB.out, List.drop_of_length_le (by omega)]; rfl
            exact ⟨ret_int (by simp [checkC, HN.out, HR.out, this]), (bBox _ _).trans (hbel.mono (by omega))⟩
  · have hne : ((zs.length : Int) != 256) = true := by simp; omega
    go_enter Tryd.func12, Tryd.ntmps12
    go_wp2_with fail
    go_ret
    exact ⟨ret_int (by simp [checkC, hn]), bBox _ _⟩
end Go.Proofs.YthpiopjpipdgnaaDoor
