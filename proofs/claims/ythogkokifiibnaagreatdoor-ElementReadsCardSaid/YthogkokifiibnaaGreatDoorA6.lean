/- numerals Memory of collations: groups, entries, the reader. Text and Parse of elements, codes and numerals: what is written is read. Plain. Files of elements: what is written, and that it is read. Plain. The reader's memory under stores and appends. Rows of bytes of the call's own, that may come out of a conversion of a string (their mark lies behind the row): append. strconv.AppendInt of a number that is not negative, onto a row of bytes; line line -/
import Derived.Test.YthogkokifiibnaaGreatDoorA5
import Derived.Lib.AppendIntMem
import Derived.Lib.AtoiAllCases
import Derived.Lib.AtoiErrMem
import Derived.Lib.ItoaMem
import Derived.Test.YthogkokifiibnaaGreatDoorA3
import Derived.Lib.AppendStr
import Derived.Lib.FrozenHead
import Derived.Lib.ConvBytes
import Derived.Laws.IdiomStrings
import Derived.Lib.ItoaWalk
import Derived.Lib.ItoaLen
namespace Go.Proofs.YthogkokifiibnaaGreatDoor
open Go.RowKit Go.Sort

/-- the package-level variables that files want besides -/
structure EnvF (w : World) : Prop where
  env : Env w
  tab : Lib.TabIs Tryz.prog w "internal/strconv.uint64pow10" .u64 Lib.pow10Tab
  e1 : ∃ ev, w.cell? ⟨3, 0, none⟩ = some ev ∧ (ev = .nilIface ∨ ∃ te pe, ev = .iface te pe)
  e2 : ∃ ev, w.cell? ⟨4, 0, none⟩ = some ev ∧ (ev = .nilIface ∨ ∃ te pe, ev = .iface te pe)
theorem EnvF.keep {w w' : World} (h : EnvF w) (hb : Below w.heap.size w w') : EnvF w' :=
  ⟨h.env.keep hb, Lib.tabBelow_of_tabIs h.tab w' hb, let ⟨v, h1, h2⟩ := h.e1; ⟨v, cell_keep hb h1, h2⟩, let ⟨v, h1, h2⟩ := h.e2; ⟨v, cell_keep hb h1, h2⟩⟩

theorem atoiYes {l : List UInt8} {v : Int} (h : Lib.atoiAll l = .ok v) (w : World) (hl : l.length ≤ 1000000) :
    Calls Tryz.prog 80 #[.string ⟨l.toArray⟩] w fun e w' => e = .returned (.tuple #[.int .i64 v, .nilIface]) ∧ Below w.heap.size w w' := by
  refine (Tryz.strconv_Atoi_ok ⟨l.toArray⟩ (by show l.length ≤ _; omega) v h w).mono fun e w' ⟨he, hw⟩ => ⟨he, ?_⟩
  rcases hw with rfl | ⟨t, rfl⟩
  · exact Below.refl _ _
  · exact Lib.bytesWorld_below _ _ _
theorem atoiNo {l : List UInt8} (h : ∀ v, Lib.atoiAll l ≠ .ok v) (w : World) (hE : EnvF w) (hl : l.length ≤ 1000000) :
    Calls Tryz.prog 80 #[.string ⟨l.toArray⟩] w fun e w' => (∃ n b, e = .returned (.tuple #[.int .i64 n, .iface 140 (.pointer (some ⟨b, 0, none⟩))])) ∧ Below w.heap.size w w' := by
  have hs : (⟨l.toArray⟩ : ByteArray).size ≤ 281474976710656 := by show l.length ≤ _; omega
  cases hc : Lib.atoiAll l with
  | ok v => exact absurd hc (h v)
  | «syntax» =>
    obtain ⟨ev, hv, hev⟩ := hE.e1
    refine (Tryz.strconv_Atoi_syntax ⟨l.toArray⟩ hs hc ev w hv hev).mono fun _ _ ⟨N, he, _, _, hb⟩ => ⟨⟨_, N, he⟩, hb⟩
  | range =>
    obtain ⟨ev, hv, hev⟩ := hE.e2
    refine (Tryz.strconv_Atoi_range ⟨l.toArray⟩ hs hc ev w hv hev).mono fun _ _ ⟨N, he, _, _, hb⟩ => ⟨⟨_, N, he⟩, hb⟩
theorem itoaAny (n : Int) (w : World) (hE : EnvF w) (h0 : -9223372036854775808 ≤ n) (h1 : n ≤ 9223372036854775807) :
    Calls Tryz.prog 81 #[.int .i64 n] w fun e w' => e = .returned (.string ⟨(Lib.itoa n).toArray⟩) ∧ Below w.heap.size w w' :=
  (Tryz.strconv_Itoa n h0 h1 w hE.tab).mono fun _ _ ⟨he, _, _, hw⟩ => ⟨he, hw ▸ Lib.below_grow _ _ (Nat.le_refl _) _ _⟩

def NumsOut (r : Option (List Int)) (w : World) (e : Ending) (w' : World) : Prop :=
  match r with
  | some ns => ∃ A c, e = .returned (.tuple #[.slice A ns.length c, .bool true]) ∧ OwnI w' w.heap.size (.slice A ns.length c) ns ∧ Below w.heap.size w w'
  | none => e = .returned (.tuple #[.slice none 0 0, .bool false]) ∧ Below w.heap.size w w'
theorem StrsAt.at_ {w : World} {A : Option Addr} {ps : List (List UInt8)} (h : StrsAt w A ps) {k : Nat} (hk : k < ps.length) :
    ∃ b off, A = some ⟨b, off, none⟩ ∧ b < w.heap.size ∧ w.cell? ⟨b, off + k, none⟩ = some (.string ⟨(piece ps k).toArray⟩) := by
  obtain ⟨b, off, e, hlt, hc⟩ := h (by omega)
  exact ⟨b, off, e, hlt, hc k hk⟩

set_option maxHeartbeats 4000000 in
set_option maxRecDepth 100000 in
theorem elNums (ps : List (List UInt8)) (A : Option Addr) (cp : Nat) (w : World) (hA : StrsAt w A ps) (hE : EnvF w) (hl : ps.length ≤ 1000) (hp : ∀ p ∈ ps, p.length ≤ 65536) :
    Calls Tryz.prog 65 #[.slice A ps.length cp] w (NumsOut (numsP ps) w) := by
  have HA := Lib.hid hA
  have HE := Lib.hid hE
  have Hp := Lib.hid hp
  clear hA hE hp
  go_enter Tryz.func65, Tryz.ntmps65
  go_wp2_with fail
  go_loopw [4, 11] (fun o i wr => ∃ (k : Nat) (acc : List Int), k ≤ ps.length ∧ i = .int .i64 k ∧ Hid (OwnI wr w.heap.size o acc) ∧ acc.length ≤ k ∧ Hid (numsP ps = (numsP (ps.drop k)).map (acc ++ ·)) ∧ Below w.heap.size w wr) (fun _ i _ => ps.length - (intOf i).toNat)
  case atStart => exact ⟨0, [], Nat.zero_le _, rfl, Lib.hid (OwnI.nil _ _), by simp, Lib.hid (by simp), Below.refl _ _⟩
  case round =>
    obtain ⟨k, acc, hk, rfl, HO, hacc, HC, hbr⟩ := hrel
    by_cases hlt : k < ps.length
    · obtain ⟨b, off, rfl, hb, hc⟩ := (HA.out.keep hbr).at_ hlt
      have hki : (k : Int) < ps.length := by omega
      have hpl := Hp.out _ (piece_mem hlt)
      have HEr := Lib.hid (HE.out.keep hbr)
      have HBad := Lib.hid (fun h => nums_bad hlt HC.out h)
      have HGood := Lib.hid (fun c h => nums_good (c := c) hlt HC.out h)
      generalize piece ps k = p at hc hpl HBad HGood
      by_cases hok : ∃ v, Lib.atoiAll p = .ok v
      · obtain ⟨v, hv⟩ := hok
        have HY := Lib.hid (atoiYes hv wr (by omega))
        have hbv := Lib.atoiAll_bounds hv
        obtain ⟨hv0, hv1⟩ := hbv
        have hnum : numP p = if 0 ≤ v ∧ Lib.itoa v = p then some v else none := by unfold numP; rw [hv]
        by_cases hneg : v < 0
        · have HR := Lib.hid (HBad.out (by rw [hnum, if_neg (by omega)]))
          have Hv := Lib.hid hv
          have Hnum := Lib.hid hnum
          clear hv hnum
          go_wp2_with fail
          refine HY.out.mono ?_
          rintro e w1 ⟨rfl, hb1⟩
          go_wp2_with fail
          go_ret2
          rw [HR.out]
          exact ⟨rfl, bUp hbr hb1⟩
        · have hd : decide (v < 0) = false := decide_eq_false hneg
          by_cases hit : Lib.itoa v = p
          · have HR := Lib.hid (HGood.out v (by rw [hnum, if_pos ⟨by omega, hit⟩]))
            have Hit := Lib.hid hit
            clear hit hnum
            have Hv := Lib.hid hv
            clear hv
            go_wp2_with fail
            refine HY.out.mono ?_
            rintro e w1 ⟨rfl, hb1⟩
            have HI := Lib.hid (itoaAny v w1 (HEr.out.keep hb1) hv0 hv1)
            rw [Hit.out] at HI
            go_wp2_with fail
            refine HI.out.mono ?_
            rintro e w2 ⟨rfl, hb2⟩
            have hsz2 : w.heap.size ≤ w2.heap.size := by have h1 := hbr.size; have h2 := hb1.size; have h3 := hb2.size; omega
            go_wp2_with (at_builtin; refine wpI rfl _ _ rfl w.heap.size rfl (HO.out.keep (bUp (bUp hb1 hb2) (bBox _ _))) [v] rfl (ints_new _ _ _) (by simp) ?c1 ?c2 ?_)
            case c1 => simp; omega
            case c2 => simp; omega
            intro v' w3 hown3 hb3
            have hb4 := hb3 w (bUp (bUp (bUp hbr hb1) hb2) (bBox _ _))
            clear hb3
            go_wp2_with fail
            go_roundw
            case rel => exact ⟨k + 1, _, by omega, by go_num, hown3, by simp; omega, HR, hb4⟩
            case measure => simp [intOf]; omega
          · have HR := Lib.hid (HBad.out (by rw [hnum, if_neg (fun h => hit h.2)]))
            have hit2 : (Lib.itoa v == p) = false := by simp [hit]
            have HI := Lib.hid (fun w' h => itoaAny v w' h hv0 hv1)
            generalize Lib.itoa v = iv at hit hit2 HI
            have Hv := Lib.hid hv
            have Hit := Lib.hid hit
            clear hv hit
            clear hnum
            go_wp2_with fail
            refine HY.out.mono ?_
            rintro e w1 ⟨rfl, hb1⟩
            go_wp2_with fail
            refine (HI.out _ (HEr.out.keep hb1)).mono ?_
            rintro e w2 ⟨rfl, hb2⟩
            go_wp2_with fail
            go_ret2
            rw [HR.out]
            exact ⟨rfl, bUp (bUp hbr hb1) hb2⟩
      · have hno : ∀ v, Lib.atoiAll p ≠ .ok v := fun v h => hok ⟨v, h⟩
        have HN := Lib.hid (atoiNo hno wr HEr.out (by omega))
        have HR := Lib.hid (HBad.out (by
          unfold numP
          cases h : Lib.atoiAll p with
          | ok v => exact absurd h (hno v)
          | «syntax» => rfl
          | range => rfl))
        have Hno := Lib.hid hno
        have Hok := Lib.hid hok
        clear hno hok
        go_wp2_with fail
        refine HN.out.mono ?_
        rintro e w1 ⟨⟨n, b1, rfl⟩, hb1⟩
        go_wp2_with fail
        go_ret2
        rw [HR.out]
        exact ⟨rfl, bUp hbr hb1⟩
    · obtain rfl : k = ps.length := by omega
      have hki : ¬ (ps.length : Int) < ps.length := by omega
      have HR := Lib.hid (show numsP ps = some acc by rw [HC.out, List.drop_of_length_le (by omega)]; simp [numsP])
      obtain ⟨A', c', rfl⟩ := HO.out.form
      go_wp2_with fail
      go_ret2
      rw [HR.out]
      exact ⟨A', c', rfl, HO.out, hbr⟩
end Go.Proofs.YthogkokifiibnaaGreatDoor
namespace Go.Proofs.YthogkokifiibnaaGreatDoor
open Go.RowKit Go.Sort

theorem infoGroup : (Tryz.prog.info? 47).map (fun i => (i.zero, i.size, i.bytes)) = some (some (.agg #[.string ByteArray.empty, .int .i64 0, .int .i64 0]), 3, 32) := by kernel_rfl
theorem infoEntry : (Tryz.prog.info? 50).map (fun i => (i.zero, i.size, i.bytes)) = some (some (.agg #[.slice none 0 0, .slice none 0 0]), 2, 48) := by kernel_rfl

/-- fv is a slice of the ints zs, in a block of ints -/
def CdB (w : World) (fv : Value) (zs : List Int) : Prop :=
  ∃ A c, fv = .slice A zs.length c ∧ (0 < zs.length → ∃ b cs fr, A = some ⟨b, 0, none⟩ ∧ w.heap[b]? = some (.cells cs 3 fr) ∧ ∀ j, j < zs.length → cs[j]? = some (.int .i64 (nth zs j)))
/-- fv is a slice of the elements es, in a block of elements -/
def ElB (w : World) (fv : Value) (es : List ElemD) : Prop :=
  ∃ A c, fv = .slice A es.length c ∧ (0 < es.length → ∃ b cs fr, A = some ⟨b, 0, none⟩ ∧ w.heap[b]? = some (.cells cs 45 fr) ∧ ∀ j, j < es.length * 4 → cs[j]? = (rowE es)[j]?)
/-- nothing has changed but the reader's block b and rows of groups and of entries -/
structure RdK (b : Nat) (w w' : World) : Prop where
  below : Below b w w'
  size : w.heap.size ≤ w'.heap.size
  kept : ∀ k cs t fr, w.heap[k]? = some (.cells cs t fr) → k ≠ b → t ≠ 47 → t ≠ 50 → w'.heap[k]? = some (.cells cs t fr)
theorem RdK.of_below {b : Nat} {w w' : World} (h : Below w.heap.size w w') (hb : b ≤ w.heap.size) : RdK b w w' :=
  ⟨h.mono hb, h.size, fun k _ _ _ hk _ _ _ => (h.block k (Array.getElem?_eq_some_iff.1 hk).1).trans hk⟩
theorem RdK.refl (b : Nat) (w : World) : RdK b w w := ⟨Below.refl _ _, Nat.le_refl _, fun _ _ _ _ h _ _ _ => h⟩
theorem RdK.trans {b : Nat} {w w1 w2 : World} (h : RdK b w w1) (k : RdK b w1 w2) : RdK b w w2 :=
  ⟨h.below.trans k.below, Nat.le_trans h.size k.size, fun i cs t fr hi h1 h2 h3 => k.kept i cs t fr (h.kept i cs t fr hi h1 h2 h3) h1 h2 h3⟩
theorem RdK.set {b : Nat} {w w' : World} (h : RdK b w w') (p : Addr) (hp : p.block = b) (u : Value) : RdK b w (w'.setCell p u) :=
  ⟨h.below.setCell (Nat.le_of_eq hp.symm) u, by simpa using h.size, fun k cs t fr hk h1 h2 h3 => (Below.heap_setCell w' p u k (by rw [hp]; exact h1)).trans (h.kept k cs t fr hk h1 h2 h3)⟩
theorem RdK.grown {b : Nat} {w w1 w2 : World} {row : Option Nat} (h : RdK b w w1) (hg : w1.grownBy w2 row) (hr : ∀ g, row = some g → b ≤ g ∧ ∃ cur t fr, w1.heap[g]? = some (.cells cur t fr) ∧ (t = 47 ∨ t = 50)) (hb : b ≤ w1.heap.size) : RdK b w w2 := by
  refine ⟨h.below.grown hg hb fun k hk => (hr k hk).1, Nat.le_trans h.size hg.size, fun k cs t fr hk h1 h2 h3 => ?_⟩
  have hk1 := h.kept k cs t fr hk h1 h2 h3
  rw [hg.block k (Array.getElem?_eq_some_iff.1 hk1).1, hk1]
  intro e
  obtain ⟨_, cur, t', fr', hc, ht⟩ := hr k e.symm
  rw [hk1] at hc
  injection hc with hc
  injection hc with _ e2 _
  subst e2
  rcases ht with ht | ht
  · exact h2 ht
  · exact h3 ht
theorem Blk.rdk {w w' : World} {b k : Nat} {cs : Array Value} {t : TypeId} (h : Blk w k cs t) (hk : RdK b w w') (h1 : k ≠ b) (h2 : t ≠ 47) (h3 : t ≠ 50) : Blk w' k cs t := hk.kept k cs t (0, 0) h h1 h2 h3

theorem CdB.rdk {w w' : World} {b : Nat} {fv : Value} {zs : List Int} (h : CdB w fv zs) (hk : RdK b w w') (hb : ∀ k cs fr, w.heap[k]? = some (.cells cs 3 fr) → k ≠ b) : CdB w' fv zs := by
  obtain ⟨A, c, e, hs⟩ := h
  refine ⟨A, c, e, fun hz => ?_⟩
  obtain ⟨g, cs, fr, eA, hg, hcs⟩ := hs hz
  exact ⟨g, cs, fr, eA, hk.kept g cs _ fr hg (hb g cs fr hg) (by decide) (by decide), hcs⟩
theorem ElB.rdk {w w' : World} {b : Nat} {fv : Value} {es : List ElemD} (h : ElB w fv es) (hk : RdK b w w') (hb : ∀ k cs fr, w.heap[k]? = some (.cells cs 45 fr) → k ≠ b) : ElB w' fv es := by
  obtain ⟨A, c, e, hs⟩ := h
  refine ⟨A, c, e, fun hz => ?_⟩
  obtain ⟨g, cs, fr, eA, hg, hcs⟩ := hs hz
  exact ⟨g, cs, fr, eA, hk.kept g cs _ fr hg (hb g cs fr hg) (by decide) (by decide), hcs⟩
theorem CdB.of_own {w : World} {base : Nat} {v : Value} {zs : List Int} (h : OwnI w base v zs) : CdB w v zs := by
  obtain ⟨hl, hv⟩ := h
  rcases hv with ⟨rfl, h0⟩ | ⟨g, cap, cur, rfl, _, hg, hc, _, hcs, ht⟩
  · exact ⟨none, 0, by rw [h0], fun hz => by omega⟩
  · refine ⟨_, cap, rfl, fun hz => ⟨g, cur, (0, 0), rfl, hg, fun j hj => ?_⟩⟩
    have h1 : (cur.toList.take (zs.length * 1))[j]? = some (.int .i64 (nth zs j)) := by rw [ht]; simp [intVals, nth, hj]
    rw [List.getElem?_take_of_lt (by omega)] at h1
    simpa using h1
theorem ElB.of_own {w : World} {base : Nat} {v : Value} {es : List ElemD} (h : OwnE w base v es) : ElB w v es := by
  obtain ⟨hl, hv⟩ := h
  rcases hv with ⟨rfl, h0⟩ | ⟨g, cap, cur, rfl, _, hg, hc, _, hcs, ht⟩
  · exact ⟨none, 0, by rw [h0], fun hz => by omega⟩
  · refine ⟨_, cap, rfl, fun hz => ⟨g, cur, (0, 0), rfl, hg, fun j hj => ?_⟩⟩
    rw [← ht, List.getElem?_take_of_lt hj]
    simp
theorem CdB.ints {w : World} {A : Option Addr} {n c : Nat} {zs : List Int} (h : CdB w (.slice A n c) zs) : IntsAt w A zs := by
  obtain ⟨A', c', e, hs⟩ := h
  injection e with e1 e2 e3
  subst e1
  intro hz
  obtain ⟨b, cs, fr, eA, hb, hcs⟩ := hs hz
  refine ⟨b, 0, eA, (Array.getElem?_eq_some_iff.1 hb).1, fun j hj => ?_⟩
  have := hcs j hj
  simp [World.cell?, hb, this]
theorem ElB.elems {w : World} {A : Option Addr} {n c : Nat} {es : List ElemD} (h : ElB w (.slice A n c) es) : ElemsAt w A es := by
  obtain ⟨A', c', e, hs⟩ := h
  injection e with e1 e2 e3
  subst e1
  intro hz
  obtain ⟨b, cs, fr, eA, hb, hcs⟩ := hs hz
  refine ⟨b, 0, eA, (Array.getElem?_eq_some_iff.1 hb).1, fun j hj => ?_⟩
  have key : ∀ i v, i < 4 → (elemCells (elemAt es j))[i]? = some v → w.cell? ⟨b, 0 + j * 4 + i, none⟩ = some v := fun i v hi hv => by
    have h1 := hcs (j * 4 + i) (by omega)
    rw [rowE_at es j _ (elemAt_get hj) i hi, hv] at h1
    simp [World.cell?, hb, h1]
  exact ⟨key 0 _ (by omega) rfl, key 1 _ (by omega) rfl, key 2 _ (by omega) rfl, key 3 _ (by omega) rfl⟩

def groupCells (g : GroupD) : List Value := [.string ⟨g.name.toArray⟩, .int .i64 g.lo, .int .i64 g.hi]
def rowG (gs : List GroupD) : List Value := gs.flatMap groupCells
theorem rowG_snoc (gs : List GroupD) (g : GroupD) : rowG (gs ++ [g]) = rowG gs ++ groupCells g := by simp [rowG]
def groupAt (gs : List GroupD) (k : Nat) : GroupD := gs.getD k default
theorem groupAt_get {gs : List GroupD} {k : Nat} (h : k < gs.length) : gs[k]? = some (groupAt gs k) := by simp [groupAt, h]
theorem groupAt_mem {gs : List GroupD} {k : Nat} (h : k < gs.length) : groupAt gs k ∈ gs := by simp [groupAt, h]
/-- the slice at A reads as the groups gs -/
def GroupsAt (w : World) (A : Option Addr) (gs : List GroupD) : Prop :=
  0 < gs.length → ∃ b off, A = some ⟨b, off, none⟩ ∧ b < w.heap.size ∧ ∀ j, j < gs.length →
    w.cell? ⟨b, off + j * 3, none⟩ = some (.string ⟨(groupAt gs j).name.toArray⟩) ∧ w.cell? ⟨b, off + j * 3 + 1, none⟩ = some (.int .i64 (groupAt gs j).lo) ∧ w.cell? ⟨b, off + j * 3 + 2, none⟩ = some (.int .i64 (groupAt gs j).hi)
theorem GroupsAt.keep {w w' : World} {A : Option Addr} {gs : List GroupD} (h : GroupsAt w A gs) (hb : Below w.heap.size w w') : GroupsAt w' A gs := by
  intro hz
  obtain ⟨b, off, e, hlt, hc⟩ := h hz
  refine ⟨b, off, e, Nat.lt_of_lt_of_le hlt hb.size, fun j hj => ?_⟩
  obtain ⟨h0, h1, h2⟩ := hc j hj
  exact ⟨(hb.cell hlt).trans h0, (hb.cell hlt).trans h1, (hb.cell hlt).trans h2⟩
theorem GroupsAt.at_ {w : World} {A : Option Addr} {gs : List GroupD} (h : GroupsAt w A gs) {k : Nat} (hk : k < gs.length) : ∃ b off, A = some ⟨b, off, none⟩ ∧ b < w.heap.size ∧
    w.cell? ⟨b, off + k * 3, none⟩ = some (.string ⟨(groupAt gs k).name.toArray⟩) ∧ w.cell? ⟨b, off + k * 3 + 1, none⟩ = some (.int .i64 (groupAt gs k).lo) ∧ w.cell? ⟨b, off + k * 3 + 2, none⟩ = some (.int .i64 (groupAt gs k).hi) := by
  obtain ⟨b, off, e, hb, hc⟩ := h (by omega)
  exact ⟨b, off, e, hb, hc k hk⟩
theorem rowG_at : ∀ (gs : List GroupD) (j : Nat) (d : GroupD), gs[j]? = some d → ∀ i, i < 3 → (rowG gs)[j * 3 + i]? = (groupCells d)[i]?
  | [], j, d, h, i, hi => by simp at h
  | y :: gs, 0, d, h, i, hi => by
    simp at h
    subst h
    simp only [rowG, List.flatMap_cons, Nat.zero_mul, Nat.zero_add]
    rw [List.getElem?_append_left (by simpa [groupCells] using hi)]
  | y :: gs, j + 1, d, h, i, hi => by
    simp at h
    simp only [rowG, List.flatMap_cons]
    rw [List.getElem?_append_right (by simp [groupCells]; omega)]
    have := rowG_at gs j d h i hi
    rw [← this]
    congr 1
    simp [groupCells]
    omega
/-- v is a slice of groups of the call's own -/
def OwnG (w : World) (base : Nat) (v : Value) (gs : List GroupD) : Prop := w.ownsRow base 47 3 v gs.length (rowG gs)
theorem OwnG.nil (w : World) (base : Nat) : OwnG w base (.slice none 0 0) [] := ⟨by simp [rowG], .inl ⟨rfl, by simp⟩⟩
theorem OwnG.form {w : World} {base : Nat} {v : Value} {gs : List GroupD} (h : OwnG w base v gs) : ∃ A c, v = .slice A gs.length c := by
  rcases h.2 with ⟨hv, h0⟩ | ⟨g, cap, cur, hv, _⟩
  · exact ⟨none, 0, by rw [hv, h0]⟩
  · exact ⟨_, _, hv⟩
theorem OwnG.row {w : World} {base : Nat} {v : Value} {gs : List GroupD} (h : OwnG w base v gs) : ∀ g, v.ownBlock = some g → base ≤ g ∧ ∃ cur, w.heap[g]? = some (.cells cur 47 (0, 0)) := by
  intro g hg
  rcases h.2 with ⟨rfl, h0⟩ | ⟨g', cap, cur, rfl, hb, hc, _⟩
  · cases hg
  · simp only [Value.ownBlock, Option.some.injEq] at hg
    subst hg
    exact ⟨hb, cur, hc⟩
theorem OwnG.grown {w w' : World} {base : Nat} {v : Value} {gs : List GroupD} {row : Option Nat} (h : OwnG w base v gs) (hg : w.grownBy w' row) (hr : ∀ g, row = some g → ∀ cur t fr, w.heap[g]? = some (.cells cur t fr) → t ≠ 47) : OwnG w' base v gs := by
  refine h.kept hg ?_
  cases hv : v.ownBlock with
  | none => exact .inl rfl
  | some g =>
    right
    intro e2
    obtain ⟨_, cur, hc⟩ := h.row g hv
    exact hr g e2.symm _ _ _ hc rfl
theorem OwnG.keep {w w' : World} {base : Nat} {v : Value} {gs : List GroupD} (h : OwnG w base v gs) (hb : Below w.heap.size w w') : OwnG w' base v gs :=
  h.kept ⟨hb.os, hb.tape, hb.output, hb.size, fun i hi _ => hb.block i hi⟩ (row := none) (by cases v.ownBlock <;> simp)
theorem OwnG.groups {w : World} {base : Nat} {A : Option Addr} {n c : Nat} {gs : List GroupD} (h : OwnG w base (.slice A n c) gs) : GroupsAt w A gs := by
  intro hz
  obtain ⟨g, cap, hv, _, hlt⟩ := World.ownsRow.form h hz
  have hA : A = some ⟨g, 0, none⟩ := by injection hv
  subst hA
  refine ⟨g, 0, rfl, hlt, fun j hj => ?_⟩
  have key : ∀ i v, i < 3 → (groupCells (groupAt gs j))[i]? = some v → w.cell? ⟨g, 0 + j * 3 + i, none⟩ = some v := fun i v hi hv' => by
    have := World.ownsRow.cells h (g := g) (by injection hv with _ _ e3; rw [e3]; rfl) (j * 3 + i) v ((rowG_at gs j _ (groupAt_get hj) i hi).trans hv')
    rw [Go.WideShapes.add_plain] at this
    rw [← this]
    congr 2
    omega
  exact ⟨key 0 _ (by omega) rfl, key 1 _ (by omega) rfl, key 2 _ (by omega) rfl⟩

def rowN (zs : List (EntryD × Value × Value)) : List Value := zs.flatMap fun z => [z.2.1, z.2.2]
theorem rowN_snoc (zs : List (EntryD × Value × Value)) (e : EntryD) (a b : Value) : rowN (zs ++ [(e, a, b)]) = rowN zs ++ [a, b] := by simp [rowN]
/-- v is a slice of entries of the call's own -/
def OwnN (w : World) (base : Nat) (v : Value) (es : List EntryD) : Prop :=
  ∃ zs : List (EntryD × Value × Value), zs.map (·.1) = es ∧ w.ownsRow base 50 2 v es.length (rowN zs) ∧ ∀ z ∈ zs, CdB w z.2.1 z.1.codes ∧ ElB w z.2.2 z.1.els
theorem OwnN.nil (w : World) (base : Nat) : OwnN w base (.slice none 0 0) [] := ⟨[], rfl, ⟨by simp [rowN], .inl ⟨rfl, by simp⟩⟩, by simp⟩
theorem OwnN.form {w : World} {base : Nat} {v : Value} {es : List EntryD} (h : OwnN w base v es) : ∃ A c, v = .slice A es.length c := by
  obtain ⟨zs, _, h, _⟩ := h
  rcases h.2 with ⟨hv, h0⟩ | ⟨g, cap, cur, hv, _⟩
  · exact ⟨none, 0, by rw [hv, h0]⟩
  · exact ⟨_, _, hv⟩
theorem OwnN.row {w : World} {base : Nat} {v : Value} {es : List EntryD} (h : OwnN w base v es) : ∀ g, v.ownBlock = some g → base ≤ g ∧ ∃ cur, w.heap[g]? = some (.cells cur 50 (0, 0)) := by
  intro g hg
  obtain ⟨zs, _, h, _⟩ := h
  rcases h.2 with ⟨rfl, h0⟩ | ⟨g', cap, cur, rfl, hb, hc, _⟩
  · cases hg
  · simp only [Value.ownBlock, Option.some.injEq] at hg
    subst hg
    exact ⟨hb, cur, hc⟩
/-- entries read -/
def entAt (es : List EntryD) (k : Nat) : EntryD := es.getD k default
theorem entAt_get {es : List EntryD} {k : Nat} (h : k < es.length) : es[k]? = some (entAt es k) := by simp [entAt, h]
theorem entAt_mem {es : List EntryD} {k : Nat} (h : k < es.length) : entAt es k ∈ es := by simp [entAt, h]
def EntsAt (w : World) (A : Option Addr) (es : List EntryD) : Prop :=
  0 < es.length → ∃ b off, A = some ⟨b, off, none⟩ ∧ b < w.heap.size ∧ ∀ j, j < es.length →
    (∃ B c, w.cell? ⟨b, off + j * 2, none⟩ = some (.slice B (entAt es j).codes.length c) ∧ IntsAt w B (entAt es j).codes) ∧ (∃ B c, w.cell? ⟨b, off + j * 2 + 1, none⟩ = some (.slice B (entAt es j).els.length c) ∧ ElemsAt w B (entAt es j).els)
theorem EntsAt.keep {w w' : World} {A : Option Addr} {es : List EntryD} (h : EntsAt w A es) (hb : Below w.heap.size w w') : EntsAt w' A es := by
  intro hz
  obtain ⟨b, off, e, hlt, hc⟩ := h hz
  refine ⟨b, off, e, Nat.lt_of_lt_of_le hlt hb.size, fun j hj => ?_⟩
  obtain ⟨⟨B, c, h0, h1⟩, ⟨B2, c2, h2, h3⟩⟩ := hc j hj
  exact ⟨⟨B, c, (hb.cell hlt).trans h0, h1.keep hb⟩, ⟨B2, c2, (hb.cell hlt).trans h2, h3.keep hb⟩⟩
theorem EntsAt.at_ {w : World} {A : Option Addr} {es : List EntryD} (h : EntsAt w A es) {k : Nat} (hk : k < es.length) : ∃ b off B c B2 c2, A = some ⟨b, off, none⟩ ∧ b < w.heap.size ∧
    w.cell? ⟨b, off + k * 2, none⟩ = some (.slice B (entAt es k).codes.length c) ∧ IntsAt w B (entAt es k).codes ∧ w.cell? ⟨b, off + k * 2 + 1, none⟩ = some (.slice B2 (entAt es k).els.length c2) ∧ ElemsAt w B2 (entAt es k).els := by
  obtain ⟨b, off, e, hb, hc⟩ := h (by omega)
  obtain ⟨⟨B, c, h0, h1⟩, ⟨B2, c2, h2, h3⟩⟩ := hc k hk
  exact ⟨b, off, B, c, B2, c2, e, hb, h0, h1, h2, h3⟩
theorem rowN_at : ∀ (zs : List (EntryD × Value × Value)) (j : Nat) (z : EntryD × Value × Value), zs[j]? = some z → ∀ i, i < 2 → (rowN zs)[j * 2 + i]? = [z.2.1, z.2.2][i]?
  | [], j, z, h, i, hi => by simp at h
  | y :: zs, 0, z, h, i, hi => by
    simp at h
    subst h
    simp only [rowN, List.flatMap_cons, Nat.zero_mul, Nat.zero_add]
    rw [List.getElem?_append_left (by simpa using hi)]
  | y :: zs, j + 1, z, h, i, hi => by
    simp at h
    simp only [rowN, List.flatMap_cons]
    rw [List.getElem?_append_right (by simp; omega)]
    have := rowN_at zs j z h i hi
    rw [← this]
    congr 1
    simp
    omega
theorem OwnN.ents {w : World} {base : Nat} {A : Option Addr} {n c : Nat} {es : List EntryD} (h : OwnN w base (.slice A n c) es) : EntsAt w A es := by
  obtain ⟨zs, rfl, h, hf⟩ := h
  intro hz
  obtain ⟨g, cap, hv, _, hlt⟩ := h.form hz
  have hA : A = some ⟨g, 0, none⟩ := by injection hv
  subst hA
  refine ⟨g, 0, rfl, hlt, fun j hj => ?_⟩
  have hj' : j < zs.length := by simpa using hj
  have hz' : zs[j]? = some zs[j] := List.getElem?_eq_getElem hj'
  have hl : entAt (zs.map (·.1)) j = zs[j].1 := by simp [entAt, hj']
  have key : ∀ i v, i < 2 → [zs[j].2.1, zs[j].2.2][i]? = some v → w.cell? ⟨g, 0 + j * 2 + i, none⟩ = some v := fun i v hi hv' => by
    have := h.cells (g := g) (by injection hv with _ _ e3; rw [e3]; rfl) (j * 2 + i) v ((rowN_at zs j _ hz' i hi).trans hv')
    rw [Go.WideShapes.add_plain] at this
    rw [← this]
    congr 2
    omega
  rw [hl]
  obtain ⟨hf1, hf2⟩ := hf zs[j] (List.getElem_mem hj')
  have k0 := key 0 _ (by omega) rfl
  have k1 := key 1 _ (by omega) rfl
  obtain ⟨B, c1, e1, r1⟩ := hf1
  obtain ⟨B2, c2, e2, r2⟩ := hf2
  exact ⟨⟨B, c1, by rw [← e1]; exact k0, CdB.ints (n := zs[j].1.codes.length) (c := c1) ⟨B, c1, rfl, r1⟩⟩, ⟨B2, c2, by rw [← e2]; exact k1, ElB.elems (n := zs[j].1.els.length) (c := c2) ⟨B2, c2, rfl, r2⟩⟩⟩

/-- the reader at block b -/
def rdCells (r : RdD) (vE vG : Value) : Array Value := #[vE, vG, .int .i64 r.c.base, .int .i64 r.c.second, .int .i64 r.c.third, .bool r.started]
def RdAt (w : World) (b : Nat) (r : RdD) : Prop :=
  ∃ vE vG, Blk w b (rdCells r vE vG) 70 ∧ OwnN w b vE r.c.entries ∧ OwnG w b vG r.c.groups
theorem OwnN.keep {w w' : World} {base : Nat} {v : Value} {es : List EntryD} (h : OwnN w base v es) (hb : Below w.heap.size w w') : OwnN w' base v es := by
  have hN : ∀ k cs t fr, w.heap[k]? = some (.cells cs t fr) → k ≠ w.heap.size := fun k cs t fr hk => Nat.ne_of_lt (Array.getElem?_eq_some_iff.1 hk).1
  obtain ⟨zs, e, h, hf⟩ := h
  exact ⟨zs, e, h.kept ⟨hb.os, hb.tape, hb.output, hb.size, fun i hi _ => hb.block i hi⟩ (row := none) (by cases v.ownBlock <;> simp), fun z hz => ⟨(hf z hz).1.rdk (RdK.of_below hb (Nat.le_refl _)) fun k cs fr hk => hN k cs _ fr hk, (hf z hz).2.rdk (RdK.of_below hb (Nat.le_refl _)) fun k cs fr hk => hN k cs _ fr hk⟩⟩
theorem RdAt.keep {w w' : World} {b : Nat} {r : RdD} (h : RdAt w b r) (hb : Below w.heap.size w w') : RdAt w' b r := by
  obtain ⟨vE, vG, h1, h2, h3⟩ := h
  exact ⟨vE, vG, h1.keep hb, h2.keep hb, h3.keep hb⟩
theorem RdAt.lt {w : World} {b : Nat} {r : RdD} (h : RdAt w b r) : b < w.heap.size := by
  obtain ⟨vE, vG, h1, h2, h3⟩ := h
  exact h1.lt
end Go.Proofs.YthogkokifiibnaaGreatDoor
namespace Go.Proofs.YthogkokifiibnaaGreatDoor
open Go.RowKit Go.Sort

theorem chksE_append (a b : List ElemD) : chksE (a ++ b) = if chksE a = 0 then chksE b else chksE a := by
  unfold chksE
  rw [List.find?_append]
  cases ha : a.find? (fun d => chkE d != 0) with
  | none => simp
  | some d =>
    have := List.find?_some ha
    simp at this
    simp [this]
theorem chksE_nil : chksE [] = 0 := rfl
theorem chksE_mem {ls : List ElemD} (h : chksE ls = 0) {d : ElemD} (hd : d ∈ ls) : chkE d = 0 := by
  have := List.all_eq_true.1 (chksE_zero h) d hd
  simpa using this
theorem chkE_inW {d : ElemD} (h : chkE d = 0) : inW d.p = true ∧ inW d.s = true ∧ inW d.t = true := by
  unfold chkE at h
  split at h
  · rename_i h1
    simp only [Bool.and_eq_true] at h1
    exact ⟨h1.1.1, h1.1.2, h1.2⟩
  · cases h
theorem inW_num {n : Int} (h : inW n = true) : numL (hex4 n) 0 = some n := by
  unfold inW at h
  simp only [Bool.and_eq_true, decide_eq_true_eq] at h
  exact numL_hex4 h.1 h.2
theorem elemT_of_one {d : ElemD} (h1 : inW d.p = true) (h2 : inW d.s = true) (h3 : inW d.t = true) : elemT (oneE d) = some d := by
  have hg : guessE (oneE d) = d := by
    obtain ⟨p, q, r, v⟩ := d
    have s1 : seg (oneE ⟨p, q, r, v⟩) 2 6 = hex4 p := rfl
    have s2 : seg (oneE ⟨p, q, r, v⟩) 7 11 = hex4 q := rfl
    have s3 : seg (oneE ⟨p, q, r, v⟩) 12 16 = hex4 r := rfl
    have b1 : byteE (oneE ⟨p, q, r, v⟩) 1 = signE ⟨p, q, r, v⟩ := rfl
    unfold guessE
    rw [s1, s2, s3, b1, numL_hexR _ _ (inW_num h1), numL_hexR _ _ (inW_num h2), numL_hexR _ _ (inW_num h3)]
    cases v <;> rfl
  have := elemT_back (t := oneE d) (by rw [hg])
  rw [hg] at this
  exact this
theorem readE_flat : ∀ (ls : List ElemD), (∀ d ∈ ls, inW d.p = true ∧ inW d.s = true ∧ inW d.t = true) → readE (ls.flatMap oneE) = some ls
  | [], _ => rfl
  | d :: r, h => by
    obtain ⟨h1, h2, h3⟩ := h d (by simp)
    rw [List.flatMap_cons, readE_step (by rw [List.length_append, oneE_length]; omega)]
    have e1 : (oneE d ++ r.flatMap oneE).take 17 = oneE d := List.take_left' (oneE_length d)
    have e2 : (oneE d ++ r.flatMap oneE).drop 17 = r.flatMap oneE := List.drop_left' (oneE_length d)
    rw [e1, e2, elemT_of_one h1 h2 h3]
    dsimp only
    rw [readE_flat r (fun x hx => h x (by simp [hx]))]
    rfl
theorem readE_back : ∀ (n : Nat) {l : List UInt8} {es : List ElemD}, l.length ≤ n → readE l = some es → es.flatMap oneE = l ∧ ∀ d ∈ es, inW d.p = true ∧ inW d.s = true ∧ inW d.t = true
  | 0, l, es, h, he => by
    obtain rfl := List.length_eq_zero_iff.1 (by omega : l.length = 0)
    cases he
    exact ⟨rfl, fun d hd => by cases hd⟩
  | n + 1, l, es, h, he => by
    by_cases h17 : 17 ≤ l.length
    · rw [readE_step h17] at he
      cases ht : elemT (l.take 17) with
      | none => rw [ht] at he; cases he
      | some d =>
        rw [ht] at he
        cases hr : readE (l.drop 17) with
        | none => simp [hr] at he
        | some r =>
          simp [hr] at he
          subst he
          obtain ⟨i1, i2⟩ := readE_back n (l := l.drop 17) (by simp; omega) hr
          obtain ⟨o1, _, o3⟩ := elemT_one (by simp; omega) ht
          refine ⟨by rw [List.flatMap_cons, o1, i1, List.take_append_drop], fun x hx => ?_⟩
          rcases List.mem_cons.1 hx with rfl | hx
          · exact o3
          · exact i2 x hx
    · by_cases h0 : l = []
      · subst h0
        cases he
        exact ⟨rfl, fun d hd => by cases hd⟩
      · rw [readE_short h0 (by omega)] at he
        cases he
/-- what Text writes is read -/
theorem parse_text {ls : List ElemD} (h : chksE ls = 0) : parseE (ls.flatMap oneE) = (ls, 0) := by
  unfold parseE
  rw [readE_flat ls (fun d hd => chkE_inW (chksE_mem h hd))]
  simp [h]
/-- what is read is written so -/
theorem parse_back (l : List UInt8) : ((parseE l).2 ≠ 0 ∧ (parseE l).1 = []) ∨ ((parseE l).2 = 0 ∧ chksE (parseE l).1 = 0 ∧ (parseE l).1.flatMap oneE = l) := by
  unfold parseE
  cases hr : readE l with
  | none => left; simp
  | some es =>
    by_cases hc : chksE es = 0
    · right
      simp only [hc, if_true]
      exact ⟨trivial, trivial, (readE_back l.length (Nat.le_refl _) hr).1⟩
    · left
      simp [hc]

theorem hexN_digit : ∀ (n c : Nat), ∀ b ∈ hexN n c, ∃ k, k < 16 ∧ b.toNat = hexC k
  | 0, _, b, h => by cases h
  | n + 1, c, b, h => by
    rw [hexN] at h
    rcases List.mem_append.1 h with h | h
    · exact hexN_digit n _ b h
    · simp at h
      subst h
      have := hexC_le (c % 16) (by omega)
      exact ⟨c % 16, by omega, by rw [UInt8.toNat_ofNat']; omega⟩
theorem hexDigit_L (c : Int) : ∀ b ∈ hexL c, ∃ k, k < 16 ∧ b.toNat = hexC k := by
  unfold hexL
  split
  · exact hexN_digit _ _
  · intro b h; cases h
theorem numL_hexNn : ∀ (k c : Nat), c < 16 ^ k → numL (hexN k c) 0 = some (c : Int) := by
  intro k
  induction k with
  | zero => intro c h; simp at h; subst h; rfl
  | succ k ih =>
    intro c h
    have h1 : c / 16 < 16 ^ k := by rw [Nat.pow_succ] at h; omega
    have hd := hexC_le (c % 16) (by omega)
    have e : (UInt8.ofNat (hexC (c % 16))).toNat = hexC (c % 16) := by rw [UInt8.toNat_ofNat']; omega
    have h2 : hexVal ((UInt8.ofNat (hexC (c % 16))).toNat : Int) = ((c % 16 : Nat) : Int) := by rw [e]; exact hexVal_hit (by omega) rfl
    rw [hexN, numL_snoc, ih (c / 16) h1]
    dsimp only
    rw [h2, if_neg (by omega)]
    congr 1
    omega
theorem hexLen_rng (n : Nat) (h : n ≤ 1114111) : 4 ≤ hexLen n ∧ hexLen n ≤ 6 ∧ n < 16 ^ hexLen n := by
  unfold hexLen
  split
  · exact ⟨by omega, by omega, by omega⟩
  · split
    · exact ⟨by omega, by omega, by omega⟩
    · exact ⟨by omega, by omega, by omega⟩
theorem parse_hexL {c : Int} (h : validB c = true) : parseCp (hexL c) = some c := by
  obtain ⟨n, rfl, hn, e⟩ := hexL_yes h
  have hl : (hexL (n : Int)).length = hexLen n := by rw [e, hexN_length]
  have h2 := hexLen_rng n hn
  unfold parseCp
  rw [hl, if_neg (by omega), e, numL_hexNn _ _ h2.2.2]
  dsimp only
  rw [if_pos e]
theorem hexL_not {x : UInt8} (hx : x.toNat < 48) (c : Int) : x ∉ hexL c := by
  intro h
  obtain ⟨k, hk, e⟩ := hexDigit_L c x h
  have := hexC_le k hk
  omega
theorem splitL_none {c : UInt8} {l : List UInt8} (h : c ∉ l) : splitL c l = [l] := by rw [splitL_cut, cutB_none.2 h]
theorem splitL_app {c : UInt8} : ∀ {a : List UInt8} (_ : c ∉ a) (r : List UInt8), splitL c (a ++ c :: r) = a :: splitL c r
  | [], _, r => splitL_hit c r
  | b :: a, h, r => by
    have hb : ¬ b = c := fun e => h (by simp [e])
    rw [List.cons_append, splitL_miss hb, splitL_app (fun hm => h (by simp [hm])) r]
theorem split_join : ∀ ps : List (List UInt8), ps ≠ [] → (∀ p ∈ ps, (32 : UInt8) ∉ p) → splitL 32 (joinL ps) = ps
  | [], h, _ => absurd rfl h
  | [p], _, h => splitL_none (h p (by simp))
  | p :: q :: r, _, h => by
    rw [joinL, splitL_app (h p (by simp)), split_join (q :: r) (by simp) (fun x hx => h x (by simp [hx]))]
theorem codes_all : ∀ (t acc : List Int), allValid t = true → codesFrom (t.map hexL) acc = (acc ++ t, 0)
  | [], acc, _ => by simp [codesFrom]
  | c :: r, acc, h => by
    rw [allValid_cons, Bool.and_eq_true] at h
    rw [List.map_cons, codesFrom, parse_hexL h.1]
    dsimp only
    rw [codes_all r _ h.2]
    simp
theorem hexL_ne_nil {c : Int} (h : validB c = true) : hexL c ≠ [] := by
  obtain ⟨n, rfl, hn, e⟩ := hexL_yes h
  intro h0
  have h1 := hexN_length (hexLen n) n
  rw [← e, h0] at h1
  have h2 := hexLen_rng n hn
  simp at h1
  omega
theorem joinL_ne : ∀ ps : List (List UInt8), ps ≠ [] → (∀ p ∈ ps, p ≠ []) → joinL ps ≠ []
  | [], h, _ => absurd rfl h
  | [p], _, h => h p (by simp)
  | p :: q :: r, _, _ => by simp [joinL]
theorem allValid_mem {t : List Int} (h : allValid t = true) (x : Int) (hx : x ∈ t) : validB x = true := List.all_eq_true.1 h x hx
theorem back_codes {t : List Int} (h : allValid t = true) : parseCodesR (codesL t) = (t, 0) := by
  cases t with
  | nil => rfl
  | cons c r =>
    have hne : codesL (c :: r) ≠ [] := joinL_ne _ (by simp) (fun p hp => by
      obtain ⟨x, hx, rfl⟩ := List.mem_map.1 hp
      exact hexL_ne_nil (allValid_mem h x hx))
    rw [parseCodesR, if_neg hne, codesL, split_join _ (by simp) (fun p hp => by
      obtain ⟨x, _, rfl⟩ := List.mem_map.1 hp
      exact hexL_not (by decide) x), codes_all _ _ h, List.nil_append]
theorem parseCp_hex {l : List UInt8} {c : Int} (h : parseCp l = some c) : hexL c = l ∧ validB c = true := by
  unfold parseCp at h
  split at h
  · cases h
  · rename_i hl
    split at h
    · cases h
    · split at h
      · rename_i h2
        injection h with h
        subst h
        refine ⟨h2, ?_⟩
        cases hv : validB _
        · rw [hexL_no hv] at h2
          rw [← h2] at hl
          simp at hl
        · rfl
      · cases h
theorem codes_valid : ∀ (ps : List (List UInt8)) (acc : List Int), allValid acc = true → (codesFrom ps acc).2 = 0 → allValid (codesFrom ps acc).1 = true
  | [], acc, h, _ => h
  | p :: ps, acc, h, h0 => by
    cases hp : parseCp p with
    | none => rw [codesFrom, hp] at h0; cases h0
    | some c =>
      rw [codesFrom, hp] at h0 ⊢
      exact codes_valid ps (acc ++ [c]) (by simp [allValid] at h ⊢; exact ⟨h, (parseCp_hex hp).2⟩) h0
theorem parseCodes_valid {l : List UInt8} (h : (parseCodesR l).2 = 0) : allValid (parseCodesR l).1 = true := by
  unfold parseCodesR at h ⊢
  split
  · rfl
  · rename_i hn
    rw [if_neg hn] at h
    exact codes_valid _ [] rfl h

theorem parseU_snoc : ∀ (l : List UInt8) (acc : Nat) (c : UInt8), Lib.parseUint10 acc (l ++ [c]) = match Lib.parseUint10 acc l with | .ok v => Lib.parseUint10 v [c] | .«syntax» => .«syntax» | .range => .range
  | [], acc, c => rfl
  | b :: l, acc, c => by
    rw [List.cons_append, Lib.parseUint10, Lib.parseUint10]
    split
    · split
      · rfl
      · split
        · rfl
        · exact parseU_snoc l _ c
    · rfl
theorem dec_digit (u : Nat) : ∀ b ∈ Lib.decDigits u, 48 ≤ b.toNat ∧ b.toNat ≤ 57 := by
  induction u using Nat.strongRecOn with
  | ind u ih =>
    intro b hb
    rw [Lib.decDigits] at hb
    split at hb
    · have hb : b = _ := List.mem_singleton.1 hb
      subst hb
      rw [UInt8.toNat_ofNat']
      omega
    · rcases List.mem_append.1 hb with hb | hb
      · exact ih (u / 10) (by omega) b hb
      · have hb : b = _ := List.mem_singleton.1 hb
        subst hb
        rw [UInt8.toNat_ofNat']
        omega
theorem dec_ne (u : Nat) : Lib.decDigits u ≠ [] := by
  rw [Lib.decDigits]
  split <;> simp
theorem dec_back (u : Nat) (h : u < 18446744073709551616) : Lib.parseUint10 0 (Lib.decDigits u) = .ok u := by
  induction u using Nat.strongRecOn with
  | ind u ih =>
    rw [Lib.decDigits]
    split
    · rename_i h10
      have e : (UInt8.ofNat (48 + u)).toNat = 48 + u := by rw [UInt8.toNat_ofNat']; omega
      rw [Lib.parseUint10, e, if_pos (by omega), if_neg (by omega), if_neg (by omega), Lib.parseUint10]
      congr 1
      omega
    · rename_i h10
      have e : (UInt8.ofNat (48 + u % 10)).toNat = 48 + u % 10 := by rw [UInt8.toNat_ofNat']; omega
      rw [parseU_snoc, ih (u / 10) (by omega) (by omega)]
      dsimp only
      rw [Lib.parseUint10, e, if_pos (by omega), if_neg (by omega), if_neg (by omega), Lib.parseUint10]
      congr 1
      omega
theorem itoa_dec {n : Int} (h : 0 ≤ n) : Lib.itoa n = Lib.decDigits n.toNat := by
  unfold Lib.itoa
  rw [if_neg (by omega)]
theorem numP_itoa {n : Int} (h0 : 0 ≤ n) (h1 : n ≤ 9223372036854775807) : numP (Lib.itoa n) = some n := by
  have hd : Lib.atoiAll (Lib.itoa n) = .ok n := by
    rw [itoa_dec h0]
    have hb := dec_back n.toNat (by omega)
    have hdig := dec_digit n.toNat
    cases hc : Lib.decDigits n.toNat with
    | nil => exact absurd hc (dec_ne _)
    | cons c r =>
      rw [hc] at hb hdig
      have := hdig c (by simp)
      rw [Lib.atoiAll_plain c r (by omega) (by omega), Lib.parseMag, if_neg (by simp), hb]
      unfold Lib.signless
      dsimp only
      rw [if_neg (by omega)]
      congr 1
      omega
  unfold numP
  rw [hd]
  dsimp only
  rw [if_pos ⟨h0, rfl⟩]
theorem numP_back {l : List UInt8} {n : Int} (h : numP l = some n) : 0 ≤ n ∧ n ≤ 9223372036854775807 ∧ Lib.itoa n = l := by
  unfold numP at h
  cases ha : Lib.atoiAll l with
  | ok v =>
    rw [ha] at h
    dsimp only at h
    split at h
    · rename_i hv
      injection h with h
      subst h
      exact ⟨hv.1, (Lib.atoiAll_bounds ha).2, hv.2⟩
    · cases h
  | «syntax» => rw [ha] at h; cases h
  | range => rw [ha] at h; cases h
theorem itoa_digit {n : Int} (h : 0 ≤ n) : ∀ b ∈ Lib.itoa n, 48 ≤ b.toNat ∧ b.toNat ≤ 57 := by
  rw [itoa_dec h]
  exact dec_digit _
end Go.Proofs.YthogkokifiibnaaGreatDoor
namespace Go.Proofs.YthogkokifiibnaaGreatDoor
open Go.RowKit Go.Sort

/-- a line of words and numbers -/
def lineP (ws : List UInt8) (ns : List Int) : List UInt8 := ws ++ ns.flatMap fun n => 32 :: Lib.itoa n
def bLine (c : CollD) : List UInt8 := lineP wBase [c.base, c.second, c.third]
def gLine (g : GroupD) : List UInt8 := lineP (wGroup ++ 32 :: g.name) [g.lo, g.hi]
def eLine (e : EntryD) : List UInt8 := codesL e.codes ++ [59, 32] ++ e.els.flatMap oneE
def nl (l : List UInt8) : List UInt8 := l ++ [10]
def fileLs (c : CollD) : List (List UInt8) := bLine c :: (c.groups.map gLine ++ c.entries.map eLine)
def fileP (c : CollD) : List UInt8 := (fileLs c).flatMap nl
def negG (g : GroupD) : Bool := decide (g.lo < 0) || decide (g.hi < 0)
/-- the first error of a collation that is to be written -/
def chkF (c : CollD) : Int :=
  if c.base < 0 ∨ c.second < 0 ∨ c.third < 0 then 1
  else if c.groups.any negG then 1
  else if c.groups.any (fun g => !nameB g.name) then 6
  else if c.entries.any (fun e => !allValid e.codes) then 1
  else match c.entries.find? (fun e => chksE e.els != 0) with | some e => chksE e.els | none => 0
def fileT (c : CollD) : List UInt8 × Int := if chkF c = 0 then (fileP c, 0) else ([], chkF c)
/-- numbers are ints -/
structure WfC (c : CollD) : Prop where
  b : c.base ≤ 9223372036854775807
  s : c.second ≤ 9223372036854775807
  t : c.third ≤ 9223372036854775807
  g : ∀ x ∈ c.groups, x.lo ≤ 9223372036854775807 ∧ x.hi ≤ 9223372036854775807
/-- a collation that is written -/
structure OkC (c : CollD) : Prop where
  b : 0 ≤ c.base ∧ 0 ≤ c.second ∧ 0 ≤ c.third
  g : ∀ x ∈ c.groups, 0 ≤ x.lo ∧ 0 ≤ x.hi ∧ nameB x.name = true
  e : ∀ x ∈ c.entries, allValid x.codes = true ∧ chksE x.els = 0
theorem chkF_ok {c : CollD} (h : chkF c = 0) : OkC c := by
  unfold chkF at h
  split at h
  · cases h
  · rename_i h1
    split at h
    · cases h
    · rename_i h2
      split at h
      · cases h
      · rename_i h3
        split at h
        · cases h
        · rename_i h4
          refine ⟨by omega, fun x hx => ?_, fun x hx => ?_⟩
          · have k2 : negG x = false := by
              cases hn : negG x
              · rfl
              · exact absurd (List.any_eq_true.2 ⟨x, hx, hn⟩) h2
            have k3 : nameB x.name = true := by
              cases hn : nameB x.name
              · exact absurd (List.any_eq_true.2 ⟨x, hx, by simp [hn]⟩) h3
              · rfl
            unfold negG at k2
            simp at k2
            exact ⟨k2.1, k2.2, k3⟩
          · have k4 : allValid x.codes = true := by
              cases hn : allValid x.codes
              · exact absurd (List.any_eq_true.2 ⟨x, hx, by simp [hn]⟩) h4
              · rfl
            refine ⟨k4, ?_⟩
            cases hf : c.entries.find? (fun e => chksE e.els != 0) with
            | none =>
              have := List.find?_eq_none.1 hf x hx
              simpa using this
            | some e =>
              rw [hf] at h
              have := List.find?_some hf
              simp at this
              exact absurd h this
theorem ok_chkF {c : CollD} (h : OkC c) : chkF c = 0 := by
  unfold chkF
  rw [if_neg (by have := h.b; omega), if_neg, if_neg, if_neg]
  · rw [List.find?_eq_none.2 (fun x hx => by simp [(h.e x hx).2])]
  · intro hn
    obtain ⟨x, hx, hb⟩ := List.any_eq_true.1 hn
    simp [(h.e x hx).1] at hb
  · intro hn
    obtain ⟨x, hx, hb⟩ := List.any_eq_true.1 hn
    simp [(h.g x hx).2.2] at hb
  · intro hn
    obtain ⟨x, hx, hb⟩ := List.any_eq_true.1 hn
    have := h.g x hx
    unfold negG at hb
    simp at hb
    omega

/-- all the lines are read, one by one -/
def stepsF : List (List UInt8) → StF → Option StF
  | [], s => some s
  | l :: ls, s => match stepF s l with | none => none | some s' => stepsF ls s'
theorem stepsF_app : ∀ (a b : List (List UInt8)) (s s' : StF), stepsF a s = some s' → stepsF (a ++ b) s = stepsF b s'
  | [], b, s, s', h => by simp [stepsF] at h; subst h; rfl
  | l :: a, b, s, s', h => by
    rw [List.cons_append, stepsF]
    rw [stepsF] at h
    cases hl : stepF s l with
    | none => rw [hl] at h; cases h
    | some s1 =>
      rw [hl] at h
      exact stepsF_app a b s1 s' h
theorem runF_app : ∀ (a b : List (List UInt8)) (s s' : StF), stepsF a s = some s' → runF (a ++ b) s = runF b s'
  | [], b, s, s', h => by simp [stepsF] at h; subst h; rfl
  | l :: a, b, s, s', h => by
    rw [List.cons_append, runF]
    rw [stepsF] at h
    cases hl : stepF s l with
    | none => rw [hl] at h; cases h
    | some s1 =>
      rw [hl] at h
      exact runF_app a b s1 s' h
theorem cutB_app {c : UInt8} : ∀ {a : List UInt8} (_ : c ∉ a) (r : List UInt8), cutB c (a ++ c :: r) = some (a, r)
  | [], _, r => by rw [List.nil_append, cutB, if_pos rfl]
  | b :: a, h, r => by
    have hb : ¬ b = c := fun e => h (by simp [e])
    rw [List.cons_append, cutB, if_neg hb, cutB_app (fun hm => h (by simp [hm])) r]
    rfl
theorem linesL_nl : ∀ (ls : List (List UInt8)) (r : List UInt8), (∀ l ∈ ls, (10 : UInt8) ∉ l) → linesL (ls.flatMap nl ++ r) = ls ++ linesL r
  | [], r, _ => rfl
  | l :: ls, r, h => by
    have e : (l :: ls).flatMap nl ++ r = l ++ 10 :: (ls.flatMap nl ++ r) := by simp [nl]
    rw [e, linesL_cut _ (cutB_app (h l (by simp)) _), linesL_nl ls r (fun x hx => h x (by simp [hx]))]
    rfl
theorem content_none {l : List UInt8} (h : (35 : UInt8) ∉ l) : contentP l = l := by
  unfold contentP
  rw [cutB_none.2 h]

theorem itoa_not {n : Int} (h : 0 ≤ n) {x : UInt8} (hx : x.toNat < 48) : x ∉ Lib.itoa n := fun hm => by
  have := itoa_digit h x hm
  omega
theorem name_bytes {l : List UInt8} (h : nameB l = true) : ∀ b ∈ l, 48 ≤ b.toNat := by
  unfold nameB at h
  simp only [Bool.and_eq_true] at h
  intro b hb
  have := List.all_eq_true.1 h.1.1 b hb
  unfold wordZ at this
  simp at this
  omega
theorem name_not {l : List UInt8} (h : nameB l = true) {x : UInt8} (hx : x.toNat < 48) : x ∉ l := fun hm => by
  have := name_bytes h x hm
  omega
theorem split_base {a b c : Int} (ha : 0 ≤ a) (hb : 0 ≤ b) (hc : 0 ≤ c) : splitL 32 (lineP wBase [a, b, c]) = [wBase, Lib.itoa a, Lib.itoa b, Lib.itoa c] := by
  have e : lineP wBase [a, b, c] = wBase ++ 32 :: (Lib.itoa a ++ 32 :: (Lib.itoa b ++ 32 :: Lib.itoa c)) := by simp [lineP]
  rw [e, splitL_app (by decide), splitL_app (itoa_not ha (by decide)), splitL_app (itoa_not hb (by decide)), splitL_none (itoa_not hc (by decide))]
theorem split_group {n : List UInt8} (hn : nameB n = true) {a b : Int} (ha : 0 ≤ a) (hb : 0 ≤ b) : splitL 32 (gLine ⟨n, a, b⟩) = [wGroup, n, Lib.itoa a, Lib.itoa b] := by
  have e : gLine ⟨n, a, b⟩ = wGroup ++ 32 :: (n ++ 32 :: (Lib.itoa a ++ 32 :: Lib.itoa b)) := by simp [gLine, lineP]
  rw [e, splitL_app (by decide), splitL_app (name_not hn (by decide)), splitL_app (itoa_not ha (by decide)), splitL_none (itoa_not hb (by decide))]
theorem line_not {ws : List UInt8} {ns : List Int} (hn : ∀ n ∈ ns, 0 ≤ n) {x : UInt8} (hx : x.toNat < 48) (h32 : x ≠ 32) (hw : x ∉ ws) : x ∉ lineP ws ns := by
  unfold lineP
  intro hm
  rcases List.mem_append.1 hm with hm | hm
  · exact hw hm
  · obtain ⟨n, h1, h2⟩ := List.mem_flatMap.1 hm
    rcases List.mem_cons.1 h2 with h2 | h2
    · exact h32 h2
    · exact itoa_not (hn n h1) hx h2
theorem gLine_not {g : GroupD} (h0 : 0 ≤ g.lo) (h1 : 0 ≤ g.hi) (hn : nameB g.name = true) {x : UInt8} (hx : x.toNat < 48) (h32 : x ≠ 32) : x ∉ gLine g := by
  refine line_not (fun n hn => by simp at hn; rcases hn with rfl | rfl <;> assumption) hx h32 (fun hm => ?_)
  rcases List.mem_append.1 hm with hm | hm
  · have : ∀ y ∈ wGroup, 48 ≤ y.toNat := by decide
    have := this x hm
    omega
  · rcases List.mem_cons.1 hm with hm | hm
    · exact h32 hm
    · exact name_not hn hx hm
theorem bLine_not {c : CollD} (h : OkC c) {x : UInt8} (hx : x.toNat < 48) (h32 : x ≠ 32) : x ∉ bLine c := by
  have hb := h.b
  refine line_not (fun n hn => by simp at hn; rcases hn with rfl | rfl | rfl <;> omega) hx h32 (fun hm => ?_)
  have : ∀ y ∈ wBase, 48 ≤ y.toNat := by decide
  have := this x hm
  omega
theorem joinL_mem : ∀ (ps : List (List UInt8)) {x : UInt8}, x ∈ joinL ps → x = 32 ∨ ∃ p ∈ ps, x ∈ p
  | [], x, h => by cases h
  | [p], x, h => .inr ⟨p, by simp, h⟩
  | p :: q :: r, x, h => by
    rw [joinL] at h
    rcases List.mem_append.1 h with h | h
    · exact .inr ⟨p, by simp, h⟩
    · rcases List.mem_cons.1 h with h | h
      · exact .inl h
      · rcases joinL_mem (q :: r) h with h | ⟨p', h1, h2⟩
        · exact .inl h
        · exact .inr ⟨p', by simp at h1 ⊢; right; exact h1, h2⟩
/-- the bytes of codes: a blank, or a digit -/
theorem codesL_bytes (t : List Int) : ∀ x ∈ codesL t, x = 32 ∨ ∃ k, k < 16 ∧ x.toNat = hexC k := by
  intro x hx
  rcases joinL_mem _ hx with h | ⟨p, h1, h2⟩
  · exact .inl h
  · obtain ⟨c, _, rfl⟩ := List.mem_map.1 h1
    exact .inr (hexDigit_L c x h2)
theorem oneE_bytes (d : ElemD) : ∀ x ∈ oneE d, x.toNat = 91 ∨ x.toNat = 93 ∨ x.toNat = 42 ∨ x.toNat = 46 ∨ ∃ k, k < 16 ∧ x.toNat = hexC k := by
  intro x hx
  have key : ∀ n : Int, x ∈ hex4 n → ∃ k, k < 16 ∧ x.toNat = hexC k := fun n h => hexN_digit 4 _ x h
  unfold oneE at hx
  simp only [List.mem_append, List.mem_cons, List.not_mem_nil, or_false] at hx
  have hs : signE d = 42 ∨ signE d = 46 := by unfold signE; split <;> simp
  rcases hx with ((((((hx | hx) | hx) | hx) | hx) | hx) | hx) | hx
  · subst hx; simp
  · rcases hs with hs | hs <;> rw [hx, hs] <;> simp
  · exact .inr (.inr (.inr (.inr (key _ hx))))
  · subst hx; simp
  · exact .inr (.inr (.inr (.inr (key _ hx))))
  · subst hx; simp
  · exact .inr (.inr (.inr (.inr (key _ hx))))
  · subst hx; simp
theorem eLine_not (e : EntryD) {x : UInt8} (hx : x = 10 ∨ x = 35) : x ∉ eLine e := by
  have hv : x.toNat = 10 ∨ x.toNat = 35 := by rcases hx with rfl | rfl <;> simp
  unfold eLine
  intro hm
  rcases List.mem_append.1 hm with hm | hm
  · rcases List.mem_append.1 hm with hm | hm
    · rcases codesL_bytes _ x hm with h | ⟨k, hk, h⟩
      · subst h
        revert hv
        decide
      · have := hexC_le k hk
        omega
    · simp at hm
      rcases hm with rfl | rfl <;> revert hv <;> decide
  · obtain ⟨d, _, h2⟩ := List.mem_flatMap.1 hm
    rcases oneE_bytes d x h2 with h | h | h | h | ⟨k, hk, h⟩
    · omega
    · omega
    · omega
    · omega
    · have := hexC_le k hk
      omega
theorem codesL_59 (t : List Int) : (59 : UInt8) ∉ codesL t := by
  intro hm
  rcases codesL_bytes t 59 hm with h | ⟨k, hk, h⟩
  · revert h
    decide
  · have := hexC_is k
    have e : (59 : UInt8).toNat = 59 := rfl
    omega
theorem index_semi : ∀ (x y : List UInt8), (59 : UInt8) ∉ x → Lib.index (x ++ 59 :: 32 :: y) [59, 32] = (x.length : Int)
  | [], y, _ => by
    rw [List.nil_append, Lib.index, if_pos (by simp [List.isPrefixOf])]
    rfl
  | b :: x, y, h => by
    have hb : ¬ b = 59 := fun e => h (by simp [e])
    rw [List.cons_append, Lib.index, if_neg (by simp [List.isPrefixOf]; intro e; exact absurd e.symm hb), index_semi x y (fun hm => h (by simp [hm]))]
    have h1 : (((x.length : Int)) == -1) = false := by simp
    rw [h1]
    simp
theorem cut_semi {x y : List UInt8} (h : (59 : UInt8) ∉ x) : Lib.cut (x ++ [59, 32] ++ y) [59, 32] = (x, y, true) := by
  have e : x ++ [59, 32] ++ y = x ++ 59 :: 32 :: y := by simp
  rw [e]
  unfold Lib.cut
  rw [index_semi x y h, if_pos (by omega)]
  have e2 : ((x.length : Int)).toNat = x.length := by simp
  rw [e2, List.take_left' rfl]
  congr 2
  rw [show x.length + [(59 : UInt8), 32].length = x.length + 2 from rfl, ← List.drop_drop, List.drop_left' rfl]
  rfl
theorem entP_line {e : EntryD} (h1 : allValid e.codes = true) (h2 : chksE e.els = 0) : entP (eLine e) = some e := by
  unfold entP eLine
  rw [cut_semi (codesL_59 _)]
  dsimp only
  rw [if_neg (by simp), back_codes h1, if_neg (by simp), readE_flat _ (fun d hd => chkE_inW (chksE_mem h2 hd))]
  rfl
theorem head_group {l : List UInt8} (h : l.head? ≠ some 64) : ¬ piece (splitL 32 l) 0 = wGroup := by
  intro e
  rw [splitL_cut] at e
  cases hc : cutB 32 l with
  | none =>
    rw [hc] at e
    have e : l = wGroup := e
    rw [e] at h
    exact h rfl
  | some p =>
    obtain ⟨a, r⟩ := p
    rw [hc] at e
    have e : a = wGroup := e
    obtain ⟨e2, _⟩ := cutB_some hc
    rw [e2, e] at h
    exact h rfl
theorem eLine_head (e : EntryD) : (eLine e).head? ≠ some 64 ∧ eLine e ≠ [] := by
  refine ⟨?_, by simp [eLine]⟩
  unfold eLine
  cases hc : codesL e.codes with
  | nil => simp
  | cons b r =>
    intro h
    simp at h
    have := codesL_bytes e.codes b (by rw [hc]; simp)
    rcases this with h' | ⟨k, hk, h'⟩
    · rw [h] at h'
      revert h'
      decide
    · rw [h] at h'
      have := hexC_is k
      have e : (64 : UInt8).toNat = 64 := rfl
      omega
theorem step_base {c : CollD} (h : OkC c) (hw : WfC c) (n : Nat) (f : Int × Int) : stepF ⟨⟨zeroC, false⟩, f, n⟩ (bLine c) = some ⟨⟨⟨[], [], c.base, c.second, c.third⟩, true⟩, f, n + 1⟩ := by
  have hb := h.b
  have e1 : bLine c ≠ [] := by simp [bLine, lineP, wBase]
  have hs := split_base hb.1 hb.2.1 hb.2.2
  unfold stepF
  rw [content_none (bLine_not h (by decide) (by decide))]
  unfold stepT
  rw [if_neg e1]
  have hp : baseP ⟨zeroC, false⟩ (bLine c) = some ⟨⟨[], [], c.base, c.second, c.third⟩, true⟩ := by
    unfold baseP bLine
    rw [hs]
    simp [piece, numsP, numP_itoa hb.1 hw.b, numP_itoa hb.2.1 hw.s, numP_itoa hb.2.2 hw.t, zeroC, nth]
  dsimp only
  rw [hp]
theorem step_group {g : GroupD} (h0 : 0 ≤ g.lo) (h1 : 0 ≤ g.hi) (hn : nameB g.name = true) (h2 : g.lo ≤ 9223372036854775807) (h3 : g.hi ≤ 9223372036854775807) (gs : List GroupD) (b s t : Int) (n : Nat) (f : Int × Int) :
    stepF ⟨⟨⟨[], gs, b, s, t⟩, true⟩, f, n⟩ (gLine g) = some ⟨⟨⟨[], gs ++ [g], b, s, t⟩, true⟩, f, n + 1⟩ := by
  have e1 : gLine g ≠ [] := by simp [gLine, lineP, wGroup]
  have hs : splitL 32 (gLine g) = [wGroup, g.name, Lib.itoa g.lo, Lib.itoa g.hi] := split_group hn h0 h1
  unfold stepF
  rw [content_none (gLine_not h0 h1 hn (by decide) (by decide))]
  unfold stepT
  rw [if_neg e1]
  have hp : baseP ⟨⟨[], gs, b, s, t⟩, true⟩ (gLine g) = none := by simp [baseP]
  have hg : groupP ⟨⟨[], gs, b, s, t⟩, true⟩ (gLine g) = some ⟨⟨[], gs ++ [g], b, s, t⟩, true⟩ := by
    unfold groupP
    rw [hs]
    simp [piece, numsP, numP_itoa h0 h2, numP_itoa h1 h3, nth, hn]
  dsimp only
  rw [hp]
  dsimp only
  rw [hg]
theorem step_entry {e : EntryD} (h1 : allValid e.codes = true) (h2 : chksE e.els = 0) (c : CollD) (n : Nat) (f : Int × Int) :
    stepF ⟨⟨c, true⟩, f, n⟩ (eLine e) = some ⟨addN ⟨c, true⟩ e, f, n + 1⟩ := by
  obtain ⟨e0, e1⟩ := eLine_head e
  unfold stepF
  rw [content_none (eLine_not e (.inr rfl))]
  unfold stepT
  rw [if_neg e1]
  have hp : baseP ⟨c, true⟩ (eLine e) = none := by simp [baseP]
  have hg : groupP ⟨c, true⟩ (eLine e) = none := by
    unfold groupP
    rw [decide_eq_false (head_group e0)]
    simp
  have he : entryP ⟨c, true⟩ (eLine e) = some e := by
    unfold entryP
    rw [if_pos rfl, entP_line h1 h2]
  dsimp only
  rw [hp]
  dsimp only
  rw [hg]
  dsimp only
  rw [he]
  dsimp only
  rw [if_neg (by simp [h2])]
theorem steps_groups (b s t : Int) (f : Int × Int) : ∀ (xs gs : List GroupD) (n : Nat), (∀ x ∈ xs, 0 ≤ x.lo ∧ 0 ≤ x.hi ∧ nameB x.name = true) → (∀ x ∈ xs, x.lo ≤ 9223372036854775807 ∧ x.hi ≤ 9223372036854775807) →
    stepsF (xs.map gLine) ⟨⟨⟨[], gs, b, s, t⟩, true⟩, f, n⟩ = some ⟨⟨⟨[], gs ++ xs, b, s, t⟩, true⟩, f, n + xs.length⟩
  | [], gs, n, _, _ => by simp [stepsF]
  | x :: xs, gs, n, h, hw => by
    obtain ⟨h0, h1, h2⟩ := h x (by simp)
    obtain ⟨w0, w1⟩ := hw x (by simp)
    rw [List.map_cons, stepsF, step_group h0 h1 h2 w0 w1]
    dsimp only
    rw [steps_groups b s t f xs (gs ++ [x]) (n + 1) (fun y hy => h y (by simp [hy])) (fun y hy => hw y (by simp [hy]))]
    simp
    omega
theorem steps_entries (f : Int × Int) : ∀ (xs : List EntryD) (es : List EntryD) (gs : List GroupD) (b s t : Int) (n : Nat), (∀ x ∈ xs, allValid x.codes = true ∧ chksE x.els = 0) →
    stepsF (xs.map eLine) ⟨⟨⟨es, gs, b, s, t⟩, true⟩, f, n⟩ = some ⟨⟨⟨es ++ xs, gs, b, s, t⟩, true⟩, f, n + xs.length⟩
  | [], es, gs, b, s, t, n, _ => by simp [stepsF]
  | x :: xs, es, gs, b, s, t, n, h => by
    obtain ⟨h0, h1⟩ := h x (by simp)
    rw [List.map_cons, stepsF, step_entry h0 h1]
    dsimp only [addN]
    rw [steps_entries f xs (es ++ [x]) gs b s t (n + 1) (fun y hy => h y (by simp [hy]))]
    simp
    omega
/-- the lines of a collation are read as that collation, whatever the number of the line and the first error were -/
theorem steps_file {c : CollD} (h : OkC c) (hw : WfC c) (f : Int × Int) (n : Nat) : stepsF (fileLs c) ⟨⟨zeroC, false⟩, f, n⟩ = some ⟨⟨c, true⟩, f, n + 1 + c.groups.length + c.entries.length⟩ := by
  unfold fileLs
  rw [stepsF, step_base h hw]
  dsimp only
  rw [stepsF_app _ _ _ _ (steps_groups _ _ _ _ c.groups [] (n + 1) h.g hw.g), List.nil_append, steps_entries _ c.entries [] _ _ _ _ _ h.e]
  simp
theorem fileLs_10 {c : CollD} (h : OkC c) : ∀ l ∈ fileLs c, (10 : UInt8) ∉ l := by
  intro l hl
  unfold fileLs at hl
  rcases List.mem_cons.1 hl with rfl | hl
  · exact bLine_not h (by decide) (by decide)
  · rcases List.mem_append.1 hl with hl | hl
    · obtain ⟨g, hg, rfl⟩ := List.mem_map.1 hl
      obtain ⟨h0, h1, h2⟩ := h.g g hg
      exact gLine_not h0 h1 h2 (by decide) (by decide)
    · obtain ⟨e, _, rfl⟩ := List.mem_map.1 hl
      exact eLine_not e (.inl rfl)
/-- a file and something behind it -/
theorem run_file {c : CollD} (h : OkC c) (hw : WfC c) (r : List UInt8) : runF (linesL (fileP c ++ r)) startF = runF (linesL r) ⟨⟨c, true⟩, (0, 0), 1 + c.groups.length + c.entries.length⟩ := by
  unfold fileP startF
  rw [linesL_nl _ _ (fileLs_10 h), runF_app _ _ _ _ (steps_file h hw (0, 0) 0), Nat.zero_add]
end Go.Proofs.YthogkokifiibnaaGreatDoor
namespace Go.Proofs.YthogkokifiibnaaGreatDoor
open Go.RowKit Go.Sort

/-- blocks of the types in ts are as before -/
def KeptT (ts : List TypeId) (w w' : World) : Prop := ∀ (k : Nat) (cs : Array Value) (t : TypeId) (fr : Nat × Nat), w.heap[k]? = some (.cells cs t fr) → t ∈ ts → w'.heap[k]? = some (.cells cs t fr)
theorem KeptT.mono {ts us : List TypeId} {w w' : World} (h : KeptT ts w w') (hs : ∀ t ∈ us, t ∈ ts) : KeptT us w w' := fun k cs t fr hk ht => h k cs t fr hk (hs t ht)
theorem KeptT.of_below {ts : List TypeId} {w w' : World} (h : Below w.heap.size w w') : KeptT ts w w' := fun k _ _ _ hk _ => (h.block k (Array.getElem?_eq_some_iff.1 hk).1).trans hk
theorem KeptT.trans {ts : List TypeId} {w w1 w2 : World} (h : KeptT ts w w1) (k : KeptT ts w1 w2) : KeptT ts w w2 := fun i cs t fr hi ht => k i cs t fr (h i cs t fr hi ht) ht
theorem KeptT.set {ts : List TypeId} {w : World} {b : Nat} {cs : Array Value} {T : TypeId} (hB : Blk w b cs T) (hT : T ∉ ts) (i : Nat) (u : Value) : KeptT ts w (w.setCell ⟨b, i, none⟩ u) := fun k cs' t fr hk ht =>
  (Below.heap_setCell w ⟨b, i, none⟩ u k (fun e => by
    have e : k = b := e
    subst e
    have hB' : w.heap[k]? = _ := hB
    rw [hk] at hB'
    injection hB' with e1
    injection e1 with _ e2 _
    subst e2
    exact hT ht)).trans hk
theorem KeptT.grown {ts : List TypeId} {w w' : World} {row : Option Nat} (hg : w.grownBy w' row) (hr : ∀ g, row = some g → ∃ cur t fr, w.heap[g]? = some (.cells cur t fr) ∧ t ∉ ts) : KeptT ts w w' := fun k cs t fr hk ht => by
  rw [hg.block k (Array.getElem?_eq_some_iff.1 hk).1, hk]
  intro e
  obtain ⟨cur, t', fr', hc, hn⟩ := hr k e.symm
  rw [hk] at hc
  injection hc with hc
  injection hc with _ e2 _
  subst e2
  exact hn ht
theorem ownsRow_keptT {w w' : World} {base : Nat} {e : TypeId} {size n : Nat} {v : Value} {xs : List Value} (h : w.ownsRow base e size v n xs) (hk : KeptT [e] w w') : w'.ownsRow base e size v n xs := by
  refine ⟨h.1, ?_⟩
  rcases h.2 with h0 | ⟨g, cap, cur, hv, hb, hc, hr⟩
  · exact .inl h0
  · exact .inr ⟨g, cap, cur, hv, hb, hk g cur e (0, 0) hc (by simp), hr⟩
theorem CdB.keptT {w w' : World} {fv : Value} {zs : List Int} (h : CdB w fv zs) (hk : KeptT [3] w w') : CdB w' fv zs := by
  obtain ⟨A, c, e, hs⟩ := h
  refine ⟨A, c, e, fun hz => ?_⟩
  obtain ⟨g, cs, fr, eA, hg, hcs⟩ := hs hz
  exact ⟨g, cs, fr, eA, hk g cs _ fr hg (by simp), hcs⟩
theorem ElB.keptT {w w' : World} {fv : Value} {es : List ElemD} (h : ElB w fv es) (hk : KeptT [45] w w') : ElB w' fv es := by
  obtain ⟨A, c, e, hs⟩ := h
  refine ⟨A, c, e, fun hz => ?_⟩
  obtain ⟨g, cs, fr, eA, hg, hcs⟩ := hs hz
  exact ⟨g, cs, fr, eA, hk g cs _ fr hg (by simp), hcs⟩
theorem OwnG.keptT {w w' : World} {base : Nat} {v : Value} {gs : List GroupD} (h : OwnG w base v gs) (hk : KeptT [47] w w') : OwnG w' base v gs := ownsRow_keptT h hk
theorem OwnN.keptT {w w' : World} {base : Nat} {v : Value} {es : List EntryD} (h : OwnN w base v es) (hk : KeptT [3, 45, 50] w w') : OwnN w' base v es := by
  obtain ⟨zs, e, h, hf⟩ := h
  exact ⟨zs, e, ownsRow_keptT h (hk.mono (by simp)), fun z hz => ⟨(hf z hz).1.keptT (hk.mono (by simp)), (hf z hz).2.keptT (hk.mono (by simp))⟩⟩
/-- a block with one cell written -/
theorem Blk.put {w : World} {b : Nat} {cs : Array Value} {t : TypeId} (h : Blk w b cs t) (i : Nat) (u : Value) : Blk (w.setCell ⟨b, i, none⟩ u) b (cs.setIfInBounds i u) t := by
  have hlt := h.lt
  unfold Blk at h ⊢
  have hc : (w.setCell ⟨b, i, none⟩ u).heap = w.heap.modify b fun | .cells c e fr => .cells (c.setIfInBounds i u) e fr | o => o := rfl
  rw [hc, Array.getElem?_modify, if_pos rfl, h]
  rfl

/-- append(v, g), the new group in the newest block -/
theorem wpG {ops : Array Oper} {rest : List Oper} {o : Oper} {a : Act} {Q : Exit → Act → World → Prop} {W : World} (hgd : o.guard = none) (s x : Operand) (ho : o.op = .call { callee := .builtin .append, args := #[s, x], argTypes := #[33, 33] })
    (base : Nat) {v : Value} {gs : List GroupD} (hs : a.eval s = v) (h : OwnG W base v gs) (g : GroupD) (hx : a.eval x = .slice (some ⟨W.heap.size, 0, none⟩) 1 1) (hl : gs.length + 1 ≤ 1000000) (hb : base ≤ W.heap.size)
    (hK : ∀ v' w', Hid (OwnG w' base v' (gs ++ [g])) → Hid (KeptT [3, 45, 50, 70, 39] W w') → (∀ w0, Below base w0 W → Below base w0 w') → wpList Tryz.prog ops Q rest (a.put o.dst v') w') : wpList Tryz.prog ops Q (o :: rest) a (W.alloc (.cells #[.string ⟨g.name.toArray⟩, .int .i64 g.lo, .int .i64 g.hi] 47)) := by
  obtain ⟨i0, hi, hz0, hz1, hz2⟩ := info_parts infoGroup
  have hk := h.keep (bBox W (.cells #[.string ⟨g.name.toArray⟩, .int .i64 g.lo, .int .i64 g.hi] 47))
  have hcell : ∀ j u, (groupCells g)[j]? = some u → (W.alloc (.cells #[.string ⟨g.name.toArray⟩, .int .i64 g.lo, .int .i64 g.hi] 47)).cell? ((⟨W.heap.size, 0, none⟩ : Addr).add j) = some u := by
    intro j u hu
    rw [Go.WideShapes.add_plain, (Blk.new W _ _).cell]
    simpa [groupCells] using hu
  refine wpList_append_own _ hgd s x 33 ho base 47 i0 _ 3 32 Tryz.underlying33 hi hz0 hz1 hz2 rfl (by decide) v gs.length (rowG gs) hs hk ⟨W.heap.size, 0, none⟩ 1 1 (groupCells g) hx rfl hcell
    (fun u hu => by simp only [groupCells, List.mem_cons, List.not_mem_nil, or_false] at hu; rcases hu with rfl | rfl | rfl <;> rfl) (by unfold maxLen; omega) (by omega) (by simp; omega) ?_
  intro v' w' hown' hg _
  refine hK v' w' (Lib.hid ?_) (Lib.hid ?_) (fun w0 h0 => ?_)
  · unfold OwnG
    rw [List.length_append, rowG_snoc]
    exact hown'
  · refine (KeptT.of_below (bBox W _)).trans (KeptT.grown hg (fun k e => ?_))
    obtain ⟨_, cur, hc⟩ := hk.row k e
    exact ⟨cur, _, _, hc, by decide⟩
  · exact (h0.alloc hb _).grown hg (by simp; omega) (fun k e => (hk.row k e).1)
/-- append(v, e), the new entry in the newest block -/
theorem wpN {ops : Array Oper} {rest : List Oper} {o : Oper} {a : Act} {Q : Exit → Act → World → Prop} {W : World} (hgd : o.guard = none) (s x : Operand) (ho : o.op = .call { callee := .builtin .append, args := #[s, x], argTypes := #[32, 32] })
    (base : Nat) {v : Value} {es : List EntryD} (hs : a.eval s = v) (h : OwnN W base v es) (e : EntryD) {v1 v2 : Value} (h1 : CdB W v1 e.codes) (h2 : ElB W v2 e.els) (hx : a.eval x = .slice (some ⟨W.heap.size, 0, none⟩) 1 1) (hl : es.length + 1 ≤ 1000000) (hb : base ≤ W.heap.size)
    (hK : ∀ v' w', Hid (OwnN w' base v' (es ++ [e])) → Hid (KeptT [3, 45, 47, 70, 39] W w') → (∀ w0, Below base w0 W → Below base w0 w') → wpList Tryz.prog ops Q rest (a.put o.dst v') w') : wpList Tryz.prog ops Q (o :: rest) a (W.alloc (.cells #[v1, v2] 50)) := by
  obtain ⟨i0, hi, hz0, hz1, hz2⟩ := info_parts infoEntry
  have hN := h.keep (bBox W (.cells #[v1, v2] 50))
  have hrow := hN.row
  obtain ⟨zs, hzs, hk, hf⟩ := h.keep (bBox W (.cells #[v1, v2] 50))
  have hcell : ∀ j u, [v1, v2][j]? = some u → (W.alloc (.cells #[v1, v2] 50)).cell? ((⟨W.heap.size, 0, none⟩ : Addr).add j) = some u := by
    intro j u hu
    rw [Go.WideShapes.add_plain, (Blk.new W _ _).cell]
    simpa using hu
  have hone : v1.oneCell' = true ∧ v2.oneCell' = true := by
    obtain ⟨A1, c1, r1, _⟩ := h1
    obtain ⟨A2, c2, r2, _⟩ := h2
    rw [r1, r2]
    exact ⟨rfl, rfl⟩
  refine wpList_append_own _ hgd s x 32 ho base 50 i0 _ 2 48 Tryz.underlying32 hi hz0 hz1 hz2 rfl (by decide) v es.length (rowN zs) hs hk ⟨W.heap.size, 0, none⟩ 1 1 [v1, v2] hx rfl hcell
    (fun u hu => by simp only [List.mem_cons, List.not_mem_nil, or_false] at hu; rcases hu with rfl | rfl; exact hone.1; exact hone.2) (by unfold maxLen; omega) (by omega) (by simp; omega) ?_
  intro v' w' hown' hg _
  have hkt : KeptT [3, 45, 47, 70, 39] (W.alloc (.cells #[v1, v2] 50)) w' := KeptT.grown hg (fun k e => by
    obtain ⟨_, cur, hc⟩ := hrow k e
    exact ⟨cur, _, _, hc, by decide⟩)
  have hkt0 := (KeptT.of_below (bBox W (.cells #[v1, v2] 50))).trans hkt
  refine hK v' w' (Lib.hid ?_) (Lib.hid hkt0) (fun w0 h0 => ?_)
  · refine ⟨zs ++ [(e, v1, v2)], by simp [hzs], ?_, fun z hz => ?_⟩
    · rw [List.length_append, rowN_snoc]
      exact hown'
    · rcases List.mem_append.1 hz with hz | hz
      · exact ⟨(hf z hz).1.keptT (hkt.mono (by simp)), (hf z hz).2.keptT (hkt.mono (by simp))⟩
      · simp at hz
        subst hz
        exact ⟨h1.keptT (hkt0.mono (by simp)), h2.keptT (hkt0.mono (by simp))⟩
  · exact (h0.alloc hb _).grown hg (by simp; omega) (fun k e => (hrow k e).1)

/-- the zero reader -/
theorem RdAt.zero (w : World) : RdAt (w.alloc (.cells #[.slice none 0 0, .slice none 0 0, .int .i64 0, .int .i64 0, .int .i64 0, .bool false] 70)) w.heap.size ⟨zeroC, false⟩ :=
  ⟨.slice none 0 0, .slice none 0 0, Blk.new w _ _, OwnN.nil _ _, OwnG.nil _ _⟩
end Go.Proofs.YthogkokifiibnaaGreatDoor
namespace Go.Proofs.YthogkokifiibnaaGreatDoor
open Go.RowKit Go.Sort

/-- the mark covers none of the row's cells -/
def Free (n : Nat) (fz : Nat × Nat) : Prop := fz.2 = 0 ∨ n ≤ fz.1
theorem store_free (P : Program) (g o : Nat) (t : TypeId) (fz : Nat × Nat) : ∀ (vs : List Value) (i : Nat) (cur : Array Value) (w : World), w.heap[g]? = some (.cells cur t fz) → Free cur.size fz → o + i + vs.length ≤ cur.size → (∀ v ∈ vs, v.oneCell' = true) →
    (storeCells ⟨g, o, none⟩ vs i).run P w = .ok () (w.setRow g (cur.toList.take (o + i) ++ vs ++ cur.toList.drop (o + i + vs.length)).toArray)
  | [], i, cur, w, hg, _, _, _ => by
    simp only [storeCells, List.append_nil, List.length_nil, Nat.add_zero, List.take_append_drop, Array.toArray_toList]
    rw [setRow_self w g cur t fz hg]
    rfl
  | v :: rest, i, cur, w, hg, hfz, hl, h1 => by
    have hi : o + i < cur.size := by simp at hl; omega
    have hadd : (⟨g, o, none⟩ : Addr).add i = ⟨g, o + i, none⟩ := Go.WideShapes.add_plain _ _ _
    have hcell : w.cell? ⟨g, o + i, none⟩ = some cur[o + i] := by simp [World.cell?, hg, hi]
    have hfro : w.frozen? ⟨g, o + i, none⟩ = false := by
      obtain ⟨lo, hh⟩ := fz
      simp only [World.frozen?, hg, Bool.and_eq_false_iff, decide_eq_false_iff_not]
      unfold Free at hfz
      dsimp only at hfz
      omega
    have hst : (store ((⟨g, o, none⟩ : Addr).add i) v).run P w = .ok () (w.setRow g (cur.setIfInBounds (o + i) v)) := by
      rw [hadd, run_store P w _ v _ (h1 v (by simp)), hcell]
      simp [hfro, setCell_eq_setRow w g (o + i) cur t fz v hg]
    have ih := store_free P g o t fz rest (i + 1) (cur.setIfInBounds (o + i) v) (w.setRow g (cur.setIfInBounds (o + i) v)) (setRow_heap w g cur _ t _ hg) (by simpa using hfz) (by simp at hl ⊢; omega) (fun x hx => h1 x (by simp [hx]))
    simp only [storeCells, Sem.run_bind, hst, Result.andThen_ok, ih, setRow_setRow]
    congr 3
    have e := list_seg_step cur.toList (o + i) v rest (by simp at hl ⊢; omega)
    simpa [Array.toList_setIfInBounds, Nat.add_assoc] using e

/-- v is a row of bytes of the call's own -/
def OwnB (w : World) (base : Nat) (v : Value) (l : List UInt8) : Prop :=
  ∃ g cap cur fz, v = .slice (some ⟨g, 0, none⟩) l.length cap ∧ base ≤ g ∧ w.heap[g]? = some (.cells cur 5 fz) ∧ Free cur.size fz ∧ l.length ≤ cap ∧ cap ≤ maxLen ∧ cur.size = cap ∧ cur.toList.take l.length = Lib.byteCells l
theorem OwnB.keep {w w' : World} {base : Nat} {v : Value} {l : List UInt8} (h : OwnB w base v l) (hb : Below w.heap.size w w') : OwnB w' base v l := by
  obtain ⟨g, cap, cur, fz, hv, hg, hc, r⟩ := h
  exact ⟨g, cap, cur, fz, hv, hg, (hb.block g (Array.getElem?_eq_some_iff.1 hc).1).trans hc, r⟩
theorem OwnB.cells {w : World} {base : Nat} {v : Value} {l : List UInt8} (h : OwnB w base v l) : ∃ g cap, v = .slice (some ⟨g, 0, none⟩) l.length cap ∧ base ≤ g ∧ g < w.heap.size ∧ ∀ j u, (Lib.byteCells l)[j]? = some u → w.cell? ⟨g, j, none⟩ = some u := by
  obtain ⟨g, cap, cur, fz, hv, hg, hc, _, _, _, _, ht⟩ := h
  refine ⟨g, cap, hv, hg, (Array.getElem?_eq_some_iff.1 hc).1, fun j u hu => ?_⟩
  rw [← ht, List.getElem?_take] at hu
  split at hu
  · rw [cell_of_row w g j cur _ fz hc]
    simpa using hu
  · cases hu
theorem OwnB.conv {w : World} {base : Nat} {v : Value} {l : List UInt8} (h : OwnB w base v l) : (convert 55 9 v).run Tryz.prog w = .ok (.string ⟨l.toArray⟩) w := by
  obtain ⟨g, cap, rfl, _, _, hc⟩ := h.cells
  refine run_convert_bytes_back (P := Tryz.prog) w 55 9 5 ⟨g, 0, none⟩ cap l Tryz.underlying55 Tryz.underlying5 Tryz.underlying9 (fun j hj => ?_)
  rw [Go.WideShapes.add_plain, Nat.zero_add]
  exact hc j _ (by simp [Lib.byteCells, hj])
theorem grown_new {w : World} {base n m old : Nat} {xs news : List Value} {l : List UInt8} (hx : xs ++ news = Lib.byteCells l) (hn : l.length = n + m) (hxl : xs.length = n) (hnl : news.length = m) (h63 : n + m ≤ maxLen) (hb : base ≤ w.heap.size) (row : Option Nat) :
    OwnB (w.drew.alloc (.cells (xs.toArray ++ news.toArray ++ Builtin.zeroCells (Value.int .u8 0).cells (grownCap w (n + m) old 5 - (n + m))) 5)) base (.slice (some ⟨w.heap.size, 0, none⟩) (n + m) (grownCap w (n + m) old 5)) l ∧
      w.grownBy (w.drew.alloc (.cells (xs.toArray ++ news.toArray ++ Builtin.zeroCells (Value.int .u8 0).cells (grownCap w (n + m) old 5 - (n + m))) 5)) row := by
  have hge := grownCap_ge w (n + m) old 5
  have hcm : grownCap w (n + m) old 5 ≤ maxLen := grownCap_le_maxLen w (n + m) old 5 h63
  have hz : (Value.int .u8 0).cells.size = 1 := rfl
  refine ⟨⟨w.heap.size, _, _, (0, 0), by rw [hn], hb, heap_alloc_new w.drew _, .inl rfl, by omega, hcm, ?_, ?_⟩, ⟨rfl, rfl, rfl, by simp, fun k hk _ => Below.heap_alloc w.drew _ k hk⟩⟩
  · simp only [Array.size_append, List.size_toArray, size_zeroCells, hz, hxl, hnl]
    omega
  · simp only [Array.toList_append, List.append_assoc]
    rw [← List.append_assoc, hx, hn, ← hxl, ← hnl, ← List.length_append, hx]
    exact List.take_left
/-- append(v, m...) -/
theorem append_B {w : World} {base : Nat} {v : Value} {l : List UInt8} (h : OwnB w base v l) (a : Addr) (c : Nat) (m : List UInt8) (hm : ∀ j u, (Lib.byteCells m)[j]? = some u → w.cell? (a.add j) = some u) (hl : l.length + m.length ≤ 1000000) (hb : base ≤ w.heap.size) (ty : TypeId) :
    ∃ v' w', (Builtin.append_ #[55, 55] ty #[v, .slice (some a) m.length c]).run Tryz.prog w = .ok v' w' ∧ OwnB w' base v' (l ++ m) ∧ w.grownBy w' v.ownBlock := by
  obtain ⟨i0, hi, hz0, hz1, hz2⟩ := info_parts infoByte
  obtain ⟨g, cap, cur, fz, rfl, hg, hc, hfz, hlc, hcm, hcs, ht⟩ := h
  have hxl : (Lib.byteCells l).length = l.length := Lib.byteCells_length l
  have hml : (Lib.byteCells m).length = m.length := Lib.byteCells_length m
  have hone : ∀ u ∈ Lib.byteCells m, u.oneCell' = true := fun u hu => by simp only [Lib.byteCells, List.mem_map] at hu; obtain ⟨b, _, rfl⟩ := hu; rfl
  have happ : Lib.byteCells l ++ Lib.byteCells m = Lib.byteCells (l ++ m) := by simp [Lib.byteCells]
  by_cases hroom : l.length + m.length ≤ cap
  · have hf := run_firstCells_some (P := Tryz.prog) w i0.size m.length a m.length c (Lib.byteCells m) (by rw [hz1, hml, Nat.mul_one]) hm
    have hst := store_free Tryz.prog g l.length 5 fz (Lib.byteCells m) 0 cur w hc hfz (by rw [hml]; omega) hone
    simp only [Nat.add_zero] at hst
    refine ⟨.slice (some ⟨g, 0, none⟩) (l.length + m.length) cap, w.setRow g (cur.toList.take l.length ++ Lib.byteCells m ++ cur.toList.drop (l.length + (Lib.byteCells m).length)).toArray, ?_, ⟨g, cap, _, fz, by rw [List.length_append], hg, setRow_heap w g cur _ _ _ hc, ?_, by rw [List.length_append]; exact hroom, hcm, ?_, ?_⟩, ⟨rfl, rfl, rfl, by simp, fun k _ hk => setRow_other w g k _ (fun e => hk (by simp [Value.ownBlock, e]))⟩⟩
    · rw [hz1] at hf
      simp [Builtin.append_, run_underlying Tryz.underlying55, sizeOf, typeInfo, hi, hz1, Builtin.lenOf, hroom, hf, Addr.add_lit, hst]
    · have : (cur.toList.take l.length ++ Lib.byteCells m ++ cur.toList.drop (l.length + (Lib.byteCells m).length)).toArray.size = cur.size := by
        simp only [List.size_toArray, List.length_append, List.length_take, List.length_drop, Array.length_toList, hml]
        omega
      rw [this]
      exact hfz
    · simp only [List.size_toArray, List.length_append, List.length_take, List.length_drop, Array.length_toList, hml]
      omega
    · rw [ht, happ, List.length_append, ← hxl, ← hml, ← List.length_append, happ]
      exact List.take_left
  · have holds : ∀ j u, (Lib.byteCells l)[j]? = some u → w.cell? ((⟨g, 0, none⟩ : Addr).add j) = some u := fun j u hu => by
      rw [Go.WideShapes.add_plain, Nat.zero_add, cell_of_row w g j cur _ fz hc]
      rw [← ht, List.getElem?_take] at hu
      split at hu
      · simpa using hu
      · cases hu
    have hr := run_append_grow (P := Tryz.prog) w 55 ty 5 i0 (.int .u8 0) Tryz.underlying55 hi hz0 ⟨g, 0, none⟩ l.length cap (Lib.byteCells l) (by rw [hz1, hxl, Nat.mul_one]) holds a m.length c (Lib.byteCells m) (by rw [hz1, hml, Nat.mul_one]) hm (by omega) (by omega) (growslice_fits (by omega) (by rw [hz2]; omega))
    have hgr := grown_new (w := w) (base := base) (old := cap) happ (List.length_append) hxl hml (by unfold maxLen; omega) hb (Value.ownBlock (.slice (some ⟨g, 0, none⟩) l.length cap))
    exact ⟨_, _, hr, hgr.1, hgr.2⟩
/-- append(v, s...) of a string -/
theorem append_BS {w : World} {base : Nat} {v : Value} {l : List UInt8} (h : OwnB w base v l) (m : List UInt8) (hl : l.length + m.length ≤ 1000000) (hb : base ≤ w.heap.size) (ty : TypeId) :
    ∃ v' w', (Builtin.append_ #[55, 9] ty #[v, .string ⟨m.toArray⟩]).run Tryz.prog w = .ok v' w' ∧ OwnB w' base v' (l ++ m) ∧ w.grownBy w' v.ownBlock := by
  obtain ⟨i0, hi, hz0, hz1, hz2⟩ := info_parts infoByte
  obtain ⟨g, cap, cur, fz, rfl, hg, hc, hfz, hlc, hcm, hcs, ht⟩ := h
  have hxl : (Lib.byteCells l).length = l.length := Lib.byteCells_length l
  have hml : (Lib.byteCells m).length = m.length := Lib.byteCells_length m
  have hsz : (⟨m.toArray⟩ : ByteArray).size = m.length := by simp [ByteArray.size]
  have hsc : Lib.strCells ⟨m.toArray⟩ = Lib.byteCells m := rfl
  have happ : Lib.byteCells l ++ Lib.byteCells m = Lib.byteCells (l ++ m) := by simp [Lib.byteCells]
  by_cases hroom : l.length + m.length ≤ cap
  · have hf := Lib.run_firstCells_string (P := Tryz.prog) w 1 ⟨m.toArray⟩
    rw [hsc, hsz] at hf
    have hst := store_free Tryz.prog g l.length 5 fz (Lib.byteCells m) 0 cur w hc hfz (by rw [hml]; omega) (fun u hu => by simp only [Lib.byteCells, List.mem_map] at hu; obtain ⟨b, _, rfl⟩ := hu; rfl)
    simp only [Nat.add_zero] at hst
    refine ⟨.slice (some ⟨g, 0, none⟩) (l.length + m.length) cap, w.setRow g (cur.toList.take l.length ++ Lib.byteCells m ++ cur.toList.drop (l.length + (Lib.byteCells m).length)).toArray, ?_, ⟨g, cap, _, fz, by rw [List.length_append], hg, setRow_heap w g cur _ _ _ hc, ?_, by rw [List.length_append]; exact hroom, hcm, ?_, ?_⟩, ⟨rfl, rfl, rfl, by simp, fun k _ hk => setRow_other w g k _ (fun e => hk (by simp [Value.ownBlock, e]))⟩⟩
    · simp [Builtin.append_, run_underlying Tryz.underlying55, run_underlying Tryz.underlying9, sizeOf, typeInfo, hi, hz1, Builtin.lenOf, hsz, hroom, hf, Addr.add_lit, hst]
    · have : (cur.toList.take l.length ++ Lib.byteCells m ++ cur.toList.drop (l.length + (Lib.byteCells m).length)).toArray.size = cur.size := by
        simp only [List.size_toArray, List.length_append, List.length_take, List.length_drop, Array.length_toList, hml]
        omega
      rw [this]
      exact hfz
    · simp only [List.size_toArray, List.length_append, List.length_take, List.length_drop, Array.length_toList, hml]
      omega
    · rw [ht, happ, List.length_append, ← hxl, ← hml, ← List.length_append, happ]
      exact List.take_left
  · have holds : ∀ j u, (Lib.byteCells l)[j]? = some u → w.cell? ((⟨g, 0, none⟩ : Addr).add j) = some u := fun j u hu => by
      rw [Go.WideShapes.add_plain, Nat.zero_add, cell_of_row w g j cur _ fz hc]
      rw [← ht, List.getElem?_take] at hu
      split at hu
      · simpa using hu
      · cases hu
    have hr := Lib.run_append_grow_string (P := Tryz.prog) w 55 9 ty 5 i0 (.int .u8 0) Tryz.underlying55 Tryz.underlying9 hi hz0 ⟨g, 0, none⟩ l.length cap (Lib.byteCells l) (by rw [hz1, hxl, Nat.mul_one]) holds ⟨m.toArray⟩ (by rw [hsz]; omega) (by rw [hsz]; omega) (growslice_fits (by rw [hsz]; omega) (by rw [hz2, hsz]; omega))
    rw [hsz, hsc] at hr
    have hgr := grown_new (w := w) (base := base) (old := cap) happ (List.length_append) hxl hml (by unfold maxLen; omega) hb (Value.ownBlock (.slice (some ⟨g, 0, none⟩) l.length cap))
    exact ⟨_, _, hr, hgr.1, hgr.2⟩
theorem OwnB.row {w : World} {base : Nat} {v : Value} {l : List UInt8} (h : OwnB w base v l) : ∀ k, v.ownBlock = some k → base ≤ k := by
  obtain ⟨g, cap, cur, fz, rfl, hg, _⟩ := h
  intro k hk
  simp only [Value.ownBlock, Option.some.injEq] at hk
  omega
/-- append(v, m...) as a step of a walk -/
theorem wpB {ops : Array Oper} {rest : List Oper} {o : Oper} {a : Act} {Q : Exit → Act → World → Prop} {W : World} (hgd : o.guard = none) (s x : Operand) (ho : o.op = .call { callee := .builtin .append, args := #[s, x], argTypes := #[55, 55] })
    (base : Nat) {v : Value} {l : List UInt8} (hs : a.eval s = v) (h : OwnB W base v l) (m : List UInt8) {ad : Addr} {c : Nat} (hx : a.eval x = .slice (some ad) m.length c) (hm : ∀ j u, (Lib.byteCells m)[j]? = some u → W.cell? (ad.add j) = some u) (hl : l.length + m.length ≤ 1000000) (hb : base ≤ W.heap.size)
    (hK : ∀ v' w', Hid (OwnB w' base v' (l ++ m)) → (∀ w0, Below base w0 W → Below base w0 w') → wpList Tryz.prog ops Q rest (a.put o.dst v') w') : wpList Tryz.prog ops Q (o :: rest) a W := by
  obtain ⟨v', w', hr, h2, h3⟩ := append_B h ad c m hm hl hb o.type
  refine wpList_plain hgd fun _ hK' => ?_
  unfold Oper.wp execOp
  simp only [ho, resolve, invoke, builtin, Sem.run_bind, Sem.run_pure, Result.andThen_ok, List.map_toArray, List.map_cons, List.map_nil, hs, hx, hr]
  exact hK' _ _ (hK v' w' (Lib.hid h2) (fun w0 h0 => h0.grown h3 hb h.row))
theorem wpBS {ops : Array Oper} {rest : List Oper} {o : Oper} {a : Act} {Q : Exit → Act → World → Prop} {W : World} (hgd : o.guard = none) (s x : Operand) (ho : o.op = .call { callee := .builtin .append, args := #[s, x], argTypes := #[55, 9] })
    (base : Nat) {v : Value} {l : List UInt8} (hs : a.eval s = v) (h : OwnB W base v l) (m : List UInt8) (hx : a.eval x = .string ⟨m.toArray⟩) (hl : l.length + m.length ≤ 1000000) (hb : base ≤ W.heap.size)
    (hK : ∀ v' w', Hid (OwnB w' base v' (l ++ m)) → (∀ w0, Below base w0 W → Below base w0 w') → wpList Tryz.prog ops Q rest (a.put o.dst v') w') : wpList Tryz.prog ops Q (o :: rest) a W := by
  obtain ⟨v', w', hr, h2, h3⟩ := append_BS h m hl hb o.type
  refine wpList_plain hgd fun _ hK' => ?_
  unfold Oper.wp execOp
  simp only [ho, resolve, invoke, builtin, Sem.run_bind, Sem.run_pure, Result.andThen_ok, List.map_toArray, List.map_cons, List.map_nil, hs, hx, hr]
  exact hK' _ _ (hK v' w' (Lib.hid h2) (fun w0 h0 => h0.grown h3 hb h.row))
/-- []byte(s) -/
theorem conv_bytes (l : List UInt8) (w : World) (hl : l.length ≤ 1000000) : ∃ v w', (convert 9 55 (.string ⟨l.toArray⟩)).run Tryz.prog w = .ok v w' ∧ OwnB w' w.heap.size v l ∧ Below w.heap.size w w' := by
  have hsz : (⟨l.toArray⟩ : ByteArray).size = l.length := by simp [ByteArray.size]
  have hge := grownCap_ge w l.length 0 5
  have hcm : grownCap w l.length 0 5 ≤ maxLen := grownCap_le_maxLen w l.length 0 5 (by unfold maxLen; omega)
  have hcs : (Lib.bytesCells w 5 ⟨l.toArray⟩).size = grownCap w l.length 0 5 := by
    unfold Lib.bytesCells
    rw [hsz]
    simp
    omega
  refine ⟨_, _, Lib.run_convert_string_bytes (P := Tryz.prog) w 9 55 5 ⟨l.toArray⟩ Tryz.underlying9 Tryz.underlying55 Tryz.underlying5, ⟨w.heap.size, grownCap w l.length 0 5, _, _, by rw [hsz], Nat.le_refl _, Lib.bytesWorld_at_new w 5 ⟨l.toArray⟩, .inr (Nat.le_refl _), hge, hcm, hcs, ?_⟩, Lib.bytesWorld_below _ _ _⟩
  unfold Lib.bytesCells Lib.byteCells
  simp
end Go.Proofs.YthogkokifiibnaaGreatDoor
namespace Go.Proofs.YthogkokifiibnaaGreatDoor
open Go.RowKit Go.Sort

/-- what a function gives back that appends to a row of bytes -/
def BytesOut (base : Nat) (l : List UInt8) (w : World) (e : Ending) (w' : World) : Prop := ∃ v', e = .returned v' ∧ OwnB w' base v' l ∧ Below base w w'
theorem OwnB.grow {w : World} {base : Nat} {v : Value} {l : List UInt8} (h : OwnB w base v l) (k : Nat) (os : Array Obj) : OwnB (grow (w.drewN k) os) base v l := h.keep (Lib.below_grow _ _ (Nat.le_refl _) k os)

set_option maxHeartbeats 6400000 in
set_option maxRecDepth 100000 in
theorem appSmall (l : List UInt8) (B u : Nat) (hu : u < 100) (sv : Value) (w : World) (hown : OwnB w B sv l) (hBw : B ≤ w.heap.size) (hlim : l.length ≤ 500000) :
    Calls Tryz.prog 84 #[sv, .int .u64 u, .int .i64 10] w (BytesOut B (l ++ Lib.decDigits u) w) := by
  have hlen : (Lib.decDigits u).length ≤ 20 := by
    rw [Lib.decDigits_length]
    by_cases h10 : u < 10
    · rw [Lib.nDigits_small h10]; omega
    · rw [Lib.nDigits_big h10, Lib.nDigits_small (show u / 10 < 10 by omega)]; omega
  have HS := Lib.hid (fun w' => Tryz.internal_strconv_small u hu w')
  generalize Lib.decDigits u = dg at HS hlen
  have hui : (u : Int) < 100 := by omega
  go_enter Tryz.func84, Tryz.ntmps84
  go_wp2_with fail
  refine (HS.out _).mono ?_
  rintro e w1 ⟨rfl, rfl⟩
  go_wp2_with (at_builtin; refine wpBS rfl _ _ rfl B rfl hown dg rfl ?c1 ?c2 ?_)
  case c1 => omega
  case c2 => omega
  intro v' w2 HO hb2
  go_wp2_with fail
  go_ret
  exact ⟨v', rfl, HO.out, hb2 _ (Below.refl _ _)⟩

set_option maxHeartbeats 12800000 in
set_option maxRecDepth 100000 in
theorem appBig (l : List UInt8) (B u : Nat) (hu : 100 ≤ u) (hu64 : u < 18446744073709551616) (sv : Value) (w : World) (hown : OwnB w B sv l) (hBw : B ≤ w.heap.size) (hlim : l.length ≤ 500000)
    (htab : Lib.TabIs Tryz.prog w "internal/strconv.uint64pow10" .u64 Lib.pow10Tab) :
    Calls Tryz.prog 84 #[sv, .int .u64 u, .int .i64 10] w (BytesOut B (l ++ Lib.decDigits u) w) := by
  have hu1 : 1 ≤ u := by omega
  have hnd20 : Lib.nDigits u ≤ 20 := by have := Lib.numDigits_eq u hu1 hu64; split at this <;> omega
  have hal : Tryz.prog.arrayLen 127 = 24 := by kernel_rfl
  have hsl : ∀ W, (Instr.sliceAt 127 (.pointer (some ⟨w.heap.size, 0, none⟩)) none (some (.int .i64 (Lib.nDigits u : Int))) none).run Tryz.prog W = .ok (.slice (some ⟨w.heap.size, 0, none⟩) (Lib.nDigits u) 24) W := fun W => by
    rw [run_sliceAt_array_h W 127 ⟨w.heap.size, 0, none⟩ (by kernel_rfl) .i64 (Lib.nDigits u : Int) (by omega) (by rw [hal]; omega)]
    rw [hal]
    go_simp
  have hH0 := Lib.holds_zero0 w 127 (Lib.nDigits u) (by omega)
  have hfmt := Tryz.internal_strconv_formatBase10 w.heap.size 0 24 u (Array.replicate (Lib.nDigits u) 0) (w.alloc (.cells Lib.zeros24 127)) hH0 (by rw [Array.size_replicate]; exact Lib.lt_pow_nDigits u) hu64 (by rw [Array.size_replicate]; omega)
  rw [Array.size_replicate] at hfmt
  have HND := Lib.hid (fun w' h => Tryz.internal_strconv_numDigits u hu1 hu64 w' h)
  have HH0 := Lib.hid hH0
  have HF := Lib.hid hfmt
  have HO := Lib.hid hown
  have iu : (100 : Int) ≤ (u : Int) := by omega
  clear hH0 hal hfmt hown
  go_enter Tryz.func84, Tryz.ntmps84
  go_wp2_with fail
  refine (HND.out _ (Lib.tabIs_alloc htab _)).mono ?_
  rintro e w1 ⟨rfl, rfl⟩
  go_wp2_with fail
  refine HF.out.mono ?_
  rintro e w' ⟨rfl, k, v', dk, rfl, hF⟩
  have hcells : ∀ j u', (Lib.byteCells (Lib.decDigits u))[j]? = some u' → ((putRow (fun (b : UInt8) => Value.int .u8 (b.toNat : Int)) (w.alloc (.cells Lib.zeros24 127)) w.heap.size 0 dk).drewN k).cell? ((⟨w.heap.size, 0, none⟩ : Addr).add j) = some u' := by
    intro j u' hj
    have hjl : j < (Lib.decDigits u).length := by
      have h5 := (List.getElem?_eq_some_iff.1 hj).1
      rwa [Lib.byteCells_length] at h5
    have e5 : (Lib.byteCells (Lib.decDigits u))[j]? = some (Value.int .u8 ((Lib.decDigits u)[j].toNat : Int)) := by simp [Lib.byteCells, hjl]
    rw [e5] at hj
    cases hj
    rw [Lib.row_is_numeral hF j hjl, Lib.add_plain, World.cell?_drewN]
    exact cell?_putRow (fun (b : UInt8) => Value.int .u8 (b.toNat : Int)) _ w.heap.size 0 _ dk HH0.out (by rw [hF.size, Array.size_replicate]) j (by rw [hF.size]; rw [Lib.decDigits_length] at hjl; exact hjl)
  obtain ⟨os, eo⟩ := Lib.fin_at w (.cells Lib.zeros24 127) dk k 0
  have hb2 : Below w.heap.size w ((putRow (fun (b : UInt8) => Value.int .u8 (b.toNat : Int)) (w.alloc (.cells Lib.zeros24 127)) w.heap.size 0 dk).drewN k) := by rw [eo]; exact Lib.below_grow _ _ (Nat.le_refl _) k os
  generalize (putRow (fun (b : UInt8) => Value.int .u8 (b.toNat : Int)) (w.alloc (.cells Lib.zeros24 127)) w.heap.size 0 dk).drewN k = W2 at hcells hb2 ⊢
  clear eo HH0 HF
  have hdl := Lib.decDigits_length u
  have Hc := Lib.hid hcells
  have hsz2 := hb2.size
  clear hcells
  rw [← hdl] at hsl hnd20 ⊢
  generalize hdg : Lib.decDigits u = dg at Hc hdl hsl hnd20 ⊢
  have Hdg := Lib.hid hdg
  clear hdl hdg
  go_wp2_with (at_builtin; refine wpB rfl _ _ rfl B rfl (HO.out.keep hb2) dg rfl Hc.out ?c1 ?c2 ?_)
  case c1 => omega
  case c2 => omega
  intro v2 w3 HO3 hb3
  go_wp2_with fail
  go_ret
  exact ⟨v2, rfl, by rw [Hdg.out]; exact HO3.out, hb3 w (hb2.mono hBw)⟩

theorem appUint (l : List UInt8) (B u : Nat) (hu64 : u < 18446744073709551616) (sv : Value) (w : World) (hown : OwnB w B sv l) (hBw : B ≤ w.heap.size) (hlim : l.length ≤ 500000)
    (htab : Lib.TabIs Tryz.prog w "internal/strconv.uint64pow10" .u64 Lib.pow10Tab) :
    Calls Tryz.prog 84 #[sv, .int .u64 u, .int .i64 10] w (BytesOut B (l ++ Lib.decDigits u) w) := by
  by_cases h : u < 100
  · exact appSmall l B u h sv w hown hBw hlim
  · exact appBig l B u (by omega) hu64 sv w hown hBw hlim htab

set_option maxHeartbeats 2000000 in
set_option maxRecDepth 100000 in
theorem appIntI (l : List UInt8) (B : Nat) (n : Int) (h0 : 0 ≤ n) (h1 : n ≤ 9223372036854775807) (sv : Value) (w : World) (hown : OwnB w B sv l) (hBw : B ≤ w.heap.size) (hlim : l.length ≤ 500000)
    (htab : Lib.TabIs Tryz.prog w "internal/strconv.uint64pow10" .u64 Lib.pow10Tab) :
    Calls Tryz.prog 71 #[sv, .int .i64 n, .int .i64 10] w (BytesOut B (l ++ Lib.itoa n) w) := by
  obtain ⟨u, rfl⟩ := Int.eq_ofNat_of_zero_le h0
  have HA := Lib.hid (appUint l B u (by omega) sv w hown hBw hlim htab)
  rw [itoa_dec h0, show ((u : Int)).toNat = u by simp]
  have hneg : ¬ (u : Int) < 0 := by omega
  have hwr : IntKind.u64.wrap (u : Int) = (u : Int) := by rw [IntKind.wrap_u64]; omega
  clear hown
  go_enter Tryz.func71, Tryz.ntmps71
  go_wp2_with fail
  refine HA.out.mono ?_
  rintro e w1 ⟨v', rfl, hO, hb⟩
  go_wp2_with fail
  go_ret
  exact ⟨v', rfl, hO, hb⟩

set_option maxHeartbeats 2000000 in
set_option maxRecDepth 100000 in
theorem appInt (l : List UInt8) (B : Nat) (n : Int) (h0 : 0 ≤ n) (h1 : n ≤ 9223372036854775807) (sv : Value) (w : World) (hown : OwnB w B sv l) (hBw : B ≤ w.heap.size) (hlim : l.length ≤ 500000)
    (htab : Lib.TabIs Tryz.prog w "internal/strconv.uint64pow10" .u64 Lib.pow10Tab) :
    Calls Tryz.prog 55 #[sv, .int .i64 n, .int .i64 10] w (BytesOut B (l ++ Lib.itoa n) w) := by
  have HA := Lib.hid (appIntI l B n h0 h1 sv w hown hBw hlim htab)
  clear hown
  go_enter Tryz.func55, Tryz.ntmps55
  go_wp2_with fail
  refine HA.out.mono ?_
  rintro e w1 ⟨v', rfl, hO, hb⟩
  go_wp2_with fail
  go_ret
  exact ⟨v', rfl, hO, hb⟩
end Go.Proofs.YthogkokifiibnaaGreatDoor
namespace Go.Proofs.YthogkokifiibnaaGreatDoor
open Go.RowKit Go.Sort

theorem lineP_snoc (ws : List UInt8) {ns : List Int} {k : Nat} (h : k < ns.length) : lineP ws (ns.take (k + 1)) = (lineP ws (ns.take k) ++ [32]) ++ Lib.itoa (nth ns k) := by
  unfold lineP
  rw [List.take_add_one, List.flatMap_append]
  simp [nth, h]
theorem lineP_len (ws : List UInt8) (ns : List Int) (hr : ∀ n ∈ ns, 0 ≤ n ∧ n ≤ 9223372036854775807) : ∀ {k : Nat}, k ≤ ns.length → (lineP ws (ns.take k)).length ≤ ws.length + 22 * k
  | 0, _ => by simp [lineP]
  | k + 1, h => by
    have ih := lineP_len ws ns hr (k := k) (by omega)
    obtain ⟨h0, h1⟩ := hr _ (nth_mem (show k < ns.length by omega))
    have := Lib.itoa_length_le (nth ns k) (by omega) (by omega)
    rw [lineP_snoc ws (by omega)]
    simp only [List.length_append, List.length_singleton]
    omega

theorem new_byte (w : World) (c : UInt8) (x : Int) (hx : x = c.toNat) : ∀ j u, (Lib.byteCells [c])[j]? = some u → (w.alloc (.cells #[.int .u8 x] 5)).cell? ((⟨w.heap.size, 0, none⟩ : Addr).add j) = some u := by
  intro j u hu
  rw [Go.WideShapes.add_plain, Nat.zero_add, cell_box]
  subst hx
  simpa [Lib.byteCells] using hu

set_option maxHeartbeats 4000000 in
set_option maxRecDepth 100000 in
theorem elLine (ws : List UInt8) (ns : List Int) (A : Option Addr) (cp : Nat) (w : World) (hA : IntsAt w A ns) (hE : EnvF w) (hw : ws.length ≤ 100000) (hn : ns.length ≤ 100) (hr : ∀ n ∈ ns, 0 ≤ n ∧ n ≤ 9223372036854775807) :
    Calls Tryz.prog 31 #[.string ⟨ws.toArray⟩, .slice A ns.length cp] w fun e w' => e = .returned (.string ⟨(nl (lineP ws ns)).toArray⟩) ∧ Below w.heap.size w w' := by
  obtain ⟨v0, w1, hcv, hO, hb1⟩ := conv_bytes ws w (by omega)
  have HL := Lib.hid (fun k h => lineP_len ws ns hr (k := k) h)
  have HS := Lib.hid (fun k (h : k < ns.length) => lineP_snoc ws h)
  have HO := Lib.hid hO
  have HA := Lib.hid hA
  have HE := Lib.hid hE
  have Hr := Lib.hid hr
  clear hA hE hr
  clear hO
  go_enter Tryz.func31, Tryz.ntmps31
  go_wp2_with fail
  go_loopw [5, 12] (fun v i wr => ∃ (k : Nat) (acc : List UInt8), k ≤ ns.length ∧ i = .int .i64 k ∧ acc.length ≤ ws.length + 22 * k ∧ Hid (acc = lineP ws (ns.take k)) ∧ Hid (OwnB wr w.heap.size v acc) ∧ Below w.heap.size w wr) (fun _ i _ => ns.length - (intOf i).toNat)
  case atStart => exact ⟨0, ws, Nat.zero_le _, rfl, by omega, Lib.hid (by simp [lineP]), HO, hb1⟩
  case round =>
    obtain ⟨k, acc, hk, rfl, hal, HT, HB, hbr⟩ := hrel
    have hsz := hbr.size
    clear hcv
    by_cases hlt : k < ns.length
    · obtain ⟨b, off, rfl, hb, hc⟩ := (HA.out.keep hbr).at_ hlt
      have hki : (k : Int) < ns.length := by omega
      obtain ⟨hn0, hn1⟩ := Hr.out _ (nth_mem hlt)
      have hst := HS.out k hlt
      have hl2 := HL.out (k + 1) (by omega)
      rw [hst, ← HT.out] at hl2
      rw [← HT.out] at hst
      generalize nth ns k = z at hc hn0 hn1 hst hl2
      have hl3 : (acc ++ [32]).length ≤ 200000 := by simp; omega
      have Hst := Lib.hid hst
      clear hst
      go_wp2_with (at_builtin; refine wpB rfl _ _ rfl w.heap.size rfl (HB.out.keep (bBox wr _)) [32] rfl (new_byte wr 32 32 rfl) ?c1 ?c2 ?_)
      case c1 => (try simp); omega
      case c2 => (try simp); omega
      intro v2 w2 HO2 hb2
      have hb02 := hb2 w (hbr.trans ((bBox wr _).mono hbr.size))
      clear hb2
      generalize acc ++ [32] = acc2 at HO2 hl2 hl3 Hst
      have HI := Lib.hid (appInt acc2 w.heap.size z hn0 hn1 v2 w2 HO2.out hb02.size (by omega) (HE.out.keep hb02).tab)
      go_wp2_with fail
      refine HI.out.mono ?_
      rintro e w3 ⟨v3, rfl, hO3, hb3⟩
      have HO3 := Lib.hid hO3
      clear hO3
      go_wp2_with fail
      go_roundw
      case rel => exact ⟨k + 1, _, by omega, by go_num, hl2, Lib.hid Hst.out.symm, HO3, hb02.trans hb3⟩
      case measure => simp [intOf]; omega
    · obtain rfl : k = ns.length := by omega
      have hki : ¬ (ns.length : Int) < ns.length := by omega
      have hfin := HT.out
      rw [List.take_length] at hfin
      have Hfin := Lib.hid hfin
      clear hfin
      go_wp2_with (at_builtin; refine wpB rfl _ _ rfl w.heap.size rfl (HB.out.keep (bBox wr _)) [10] rfl (new_byte wr 10 10 rfl) ?c1 ?c2 ?_)
      case c1 => (try simp); omega
      case c2 => (try simp); omega
      intro v2 w2 HO2 hb2
      have hb02 := hb2 w (hbr.trans ((bBox wr _).mono hbr.size))
      have hc2 := HO2.out.conv
      have HN := Lib.hid (show nl (lineP ws ns) = acc ++ [10] by rw [← Hfin.out]; rfl)
      clear hb2
      generalize acc ++ [10] = acc2 at HO2 hc2 HN
      go_wp2_with fail
      go_ret
      exact ⟨by rw [HN.out]; rfl, hb02⟩
end Go.Proofs.YthogkokifiibnaaGreatDoor
