/- numerals -/
import Derived.Test.YthogkokifiibnaaDoorElP3
import Derived.Lib.AppendIntMem
import Derived.Lib.AtoiAllCases
import Derived.Lib.AtoiErrMem
namespace Go.Proofs.YthogkokifiibnaaDoor
open Go.RowKit Go.Sort

/-- the package-level variables that files want besides -/
structure EnvF (w : World) : Prop where
  env : Env w
  tab : Lib.TabIs Tryd.prog w "internal/strconv.uint64pow10" .u64 Lib.pow10Tab
  e1 : ∃ ev, w.cell? ⟨3, 0, none⟩ = some ev ∧ (ev = .nilIface ∨ ∃ te pe, ev = .iface te pe)
  e2 : ∃ ev, w.cell? ⟨4, 0, none⟩ = some ev ∧ (ev = .nilIface ∨ ∃ te pe, ev = .iface te pe)
theorem EnvF.keep {w w' : World} (h : EnvF w) (hb : Below w.heap.size w w') : EnvF w' :=
  ⟨h.env.keep hb, Lib.tabBelow_of_tabIs h.tab w' hb, let ⟨v, h1, h2⟩ := h.e1; ⟨v, cell_keep hb h1, h2⟩, let ⟨v, h1, h2⟩ := h.e2; ⟨v, cell_keep hb h1, h2⟩⟩

theorem atoiYes {l : List UInt8} {v : Int} (h : Lib.atoiAll l = .ok v) (w : World) (hl : l.length ≤ 1000000) :
    Calls Tryd.prog 55 #[.string ⟨l.toArray⟩] w fun e w' => e = .returned (.tuple #[.int .i64 v, .nilIface]) ∧ Below w.heap.size w w' := by
  refine (Tryd.strconv_Atoi_ok ⟨l.toArray⟩ (by show l.length ≤ _; omega) v h w).mono fun e w' ⟨he, hw⟩ => ⟨he, ?_⟩
  rcases hw with rfl | ⟨t, rfl⟩
  · exact Below.refl _ _
  · exact Lib.bytesWorld_below _ _ _
theorem atoiNo {l : List UInt8} (h : ∀ v, Lib.atoiAll l ≠ .ok v) (w : World) (hE : EnvF w) (hl : l.length ≤ 1000000) :
    Calls Tryd.prog 55 #[.string ⟨l.toArray⟩] w fun e w' => (∃ n b, e = .returned (.tuple #[.int .i64 n, .iface 132 (.pointer (some ⟨b, 0, none⟩))])) ∧ Below w.heap.size w w' := by
  have hs : (⟨l.toArray⟩ : ByteArray).size ≤ 281474976710656 := by show l.length ≤ _; omega
  cases hc : Lib.atoiAll l with
  | ok v => exact absurd hc (h v)
  | «syntax» =>
    obtain ⟨ev, hv, hev⟩ := hE.e1
    refine (Tryd.strconv_Atoi_syntax ⟨l.toArray⟩ hs hc ev w hv hev).mono fun _ _ ⟨N, he, _, _, hb⟩ => ⟨⟨_, N, he⟩, hb⟩
  | range =>
    obtain ⟨ev, hv, hev⟩ := hE.e2
    refine (Tryd.strconv_Atoi_range ⟨l.toArray⟩ hs hc ev w hv hev).mono fun _ _ ⟨N, he, _, _, hb⟩ => ⟨⟨_, N, he⟩, hb⟩
theorem itoaAny (n : Int) (w : World) (hE : EnvF w) (h0 : -9223372036854775808 ≤ n) (h1 : n ≤ 9223372036854775807) :
    Calls Tryd.prog 56 #[.int .i64 n] w fun e w' => e = .returned (.string ⟨(Lib.itoa n).toArray⟩) ∧ Below w.heap.size w w' :=
  (Tryd.strconv_Itoa n h0 h1 w hE.tab).mono fun _ _ ⟨he, _, _, hw⟩ => ⟨he, hw ▸ Lib.below_grow _ _ (Nat.le_refl _) _ _⟩

def NumsOut (r : Option (List Int)) (w : World) (e : Ending) (w' : World) : Prop :=
  match r with
  | some ns => ∃ A c, e = .returned (.tuple #[.slice A ns.length c, .bool true]) ∧ OwnI w' w.heap.size (.slice A ns.length c) ns ∧ Below w.heap.size w w'
  | none => e = .returned (.tuple #[.slice none 0 0, .bool false]) ∧ Below w.heap.size w w'
theorem StrsAt.at_ {w : World} {A : Option Addr} {ps : List (List UInt8)} (h : StrsAt w A ps) {k : Nat} (hk : k < ps.length) :
    ∃ b off, A = some ⟨b, off, none⟩ ∧ b < w.heap.size ∧ w.cell? ⟨b, off + k, none⟩ = some (.string ⟨(piece ps k).toArray⟩) := by
  obtain ⟨b, off, e, hlt, hc⟩ := h (by omega)
  exact ⟨b, off, e, hlt, hc k hk⟩

set_option maxHeartbeats 4000000 in
set_option maxRecDepth 100000 in
theorem elNums (ps : List (List UInt8)) (A : Option Addr) (cp : Nat) (w : World) (hA : StrsAt w A ps) (hE : EnvF w) (hl : ps.length ≤ 1000) (hp : ∀ p ∈ ps, p.length ≤ 65536) :
    Calls Tryd.prog 43 #[.slice A ps.length cp] w (NumsOut (numsP ps) w) := by
  have HA := Lib.hid hA
  have HE := Lib.hid hE
  have Hp := Lib.hid hp
  clear hA hE hp
  go_enter Tryd.func43, Tryd.ntmps43
  go_wp2_with fail
  go_loopw [4, 11] (fun o i wr => ∃ (k : Nat) (acc : List Int), k ≤ ps.length ∧ i = .int .i64 k ∧ Hid (OwnI wr w.heap.size o acc) ∧ acc.length ≤ k ∧ Hid (numsP ps = (numsP (ps.drop k)).map (acc ++ ·)) ∧ Below w.heap.size w wr) (fun _ i _ => ps.length - (intOf i).toNat)
  case atStart => exact ⟨0, [], Nat.zero_le _, rfl, Lib.hid (OwnI.nil _ _), by simp, Lib.hid (by simp), Below.refl _ _⟩
  case round =>
    obtain ⟨k, acc, hk, rfl, HO, hacc, HC, hbr⟩ := hrel
    by_cases hlt : k < ps.length
    · obtain ⟨b, off, rfl, hb, hc⟩ := (HA.out.keep hbr).at_ hlt
      have hki : (k : Int) < ps.length := by omega
      have hpl := Hp.out _ (piece_mem hlt)
      have HEr := Lib.hid (HE.out.keep hbr)
      have HBad := Lib.hid (fun h => nums_bad hlt HC.out h)
      have HGood := Lib.hid (fun c h => nums_good (c := c) hlt HC.out h)
      generalize piece ps k = p at hc hpl HBad HGood
      by_cases hok : ∃ v, Lib.atoiAll p = .ok v
      · obtain ⟨v, hv⟩ := hok
        have HY := Lib.hid (atoiYes hv wr (by omega))
        have hbv := Lib.atoiAll_bounds hv
        obtain ⟨hv0, hv1⟩ := hbv
        have hnum : numP p = if 0 ≤ v ∧ Lib.itoa v = p then some v else none := by unfold numP; rw [hv]
        by_cases hneg : v < 0
        · have HR := Lib.hid (HBad.out (by rw [hnum, if_neg (by omega)]))
          have Hv := Lib.hid hv
          have Hnum := Lib.hid hnum
          clear hv hnum
          go_wp2_with fail
          refine HY.out.mono ?_
          rintro e w1 ⟨rfl, hb1⟩
          go_wp2_with fail
          go_ret2
          rw [HR.out]
          exact ⟨rfl, bUp hbr hb1⟩
        · have hd : decide (v < 0) = false := decide_eq_false hneg
          by_cases hit : Lib.itoa v = p
          · have HR := Lib.hid (HGood.out v (by rw [hnum, if_pos ⟨by omega, hit⟩]))
            have Hit := Lib.hid hit
            clear hit hnum
            have Hv := Lib.hid hv
            clear hv
            go_wp2_with fail
            refine HY.out.mono ?_
            rintro e w1 ⟨rfl, hb1⟩
            have HI := Lib.hid (itoaAny v w1 (HEr.out.keep hb1) hv0 hv1)
            rw [Hit.out] at HI
            go_wp2_with fail
            refine HI.out.mono ?_
            rintro e w2 ⟨rfl, hb2⟩
            have hsz2 : w.heap.size ≤ w2.heap.size := by have h1 := hbr.size; have h2 := hb1.size; have h3 := hb2.size; omega
            go_wp2_with (at_builtin; refine wpI rfl _ _ rfl w.heap.size rfl (HO.out.keep (bUp (bUp hb1 hb2) (bBox _ _))) [v] rfl (ints_new _ _ _) (by simp) ?c1 ?c2 ?_)
            case c1 => simp; omega
            case c2 => simp; omega
            intro v' w3 hown3 hb3
            have hb4 := hb3 w (bUp (bUp (bUp hbr hb1) hb2) (bBox _ _))
            clear hb3
            go_wp2_with fail
            go_roundw
            case rel => exact ⟨k + 1, _, by omega, by go_num, hown3, by simp; omega, HR, hb4⟩
            case measure => simp [intOf]; omega
          · have HR := Lib.hid (HBad.out (by rw [hnum, if_neg (fun h => hit h.2)]))
            have hit2 : (Lib.itoa v == p) = false := by simp [hit]
            have HI := Lib.hid (fun w' h => itoaAny v w' h hv0 hv1)
            generalize Lib.itoa v = iv at hit hit2 HI
            have Hv := Lib.hid hv
            have Hit := Lib.hid hit
            clear hv hit
            clear hnum
            go_wp2_with fail
            refine HY.out.mono ?_
            rintro e w1 ⟨rfl, hb1⟩
            go_wp2_with fail
            refine (HI.out _ (HEr.out.keep hb1)).mono ?_
            rintro e w2 ⟨rfl, hb2⟩
            go_wp2_with fail
            go_ret2
            rw [HR.out]
            exact ⟨rfl, bUp (bUp hbr hb1) hb2⟩
      · have hno : ∀ v, Lib.atoiAll p ≠ .ok v := fun v h => hok ⟨v, h⟩
        have HN := Lib.hid (atoiNo hno wr HEr.out (by omega))
        have HR := Lib.hid (HBad.out (by
          unfold numP
          cases h : Lib.atoiAll p with
          | ok v => exact absurd h (hno v)
          | «syntax» => rfl
          | range => rfl))
        have Hno := Lib.hid hno
        have Hok := Lib.hid hok
        clear hno hok
        go_wp2_with fail
        refine HN.out.mono ?_
        rintro e w1 ⟨⟨n, b1, rfl⟩, hb1⟩
        go_wp2_with fail
        go_ret2
        rw [HR.out]
        exact ⟨rfl, bUp hbr hb1⟩
    · obtain rfl : k = ps.length := by omega
      have hki : ¬ (ps.length : Int) < ps.length := by omega
      have HR := Lib.hid (show numsP ps = some acc by rw [HC.out, List.drop_of_length_le (by omega)]; simp [numsP])
      obtain ⟨A', c', rfl⟩ := HO.out.form
      go_wp2_with fail
      go_ret2
      rw [HR.out]
      exact ⟨A', c', rfl, HO.out, hbr⟩
end Go.Proofs.YthogkokifiibnaaDoor
