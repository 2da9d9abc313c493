/- charset.Decode, ref03.Bytes, ref06.Decode -/
import Derived.Test.YthpiopjpipdgnaaDoorCs15
import Derived.Test.YthpiopjpipdgnaaDoorCsL3
import Derived.Maps.AppendAt
import Derived.Deep.RegionHeld
import Derived.Deep.RegionLaw
namespace Go.Proofs.YthpiopjpipdgnaaDoor
open Go.RowKit Go.Sort

def intVals (zs : List Int) : List Value := zs.map (Value.int .i64)
/-- v is a slice of the call's own, from block base on, that holds zs -/
def OwnI (w : World) (base : Nat) (v : Value) (zs : List Int) : Prop := w.ownsRow base 3 1 v zs.length (intVals zs)
theorem OwnI.nil (w : World) (base : Nat) : OwnI w base (.slice none 0 0) [] := ⟨by simp [intVals], .inl ⟨rfl, by simp⟩⟩
theorem OwnI.form {w : World} {base : Nat} {v : Value} {zs : List Int} (h : OwnI w base v zs) : ∃ A c, v = .slice A zs.length c := by
  rcases h.2 with ⟨hv, h0⟩ | ⟨g, cap, cur, hv, _⟩
  · exact ⟨none, 0, by rw [hv, h0]⟩
  · exact ⟨_, _, hv⟩
theorem OwnI.ints {w : World} {base : Nat} {A : Option Addr} {c : Nat} {zs : List Int} (h : OwnI w base (.slice A zs.length c) zs) : IntsAt w A zs := by
  intro hn
  obtain ⟨g, cap, hv, _, hlt⟩ := World.ownsRow.form h hn
  have hA : A = some ⟨g, 0, none⟩ := by injection hv
  subst hA
  refine ⟨g, 0, rfl, hlt, fun j hj => ?_⟩
  have := World.ownsRow.cells h (g := g) rfl j (.int .i64 (nth zs j)) (by simp [intVals, nth, hj])
  rwa [Go.WideShapes.add_plain] at this
theorem OwnI.keep {w w' : World} {base : Nat} {v : Value} {zs : List Int} (h : OwnI w base v zs) (hb : Below w.heap.size w w') : OwnI w' base v zs :=
  World.ownsRow.kept h ⟨hb.os, hb.tape, hb.output, hb.size, fun i hi _ => hb.block i hi⟩ (row := none) (by cases v.ownBlock <;> simp)
/-- append(v, news...) where the new ints lie in the newest block -/
theorem appendI {w : World} {base : Nat} {v : Value} {zs : List Int} (h : OwnI w base v zs) (news : List Int) (hl : zs.length + news.length ≤ 1000000) (hb : base ≤ w.heap.size) (W : World) (hW : W.heap = (w.alloc (.cells (intVals news).toArray 3)).heap) (hos : W.os = w.os) (hta : W.tape = w.tape) (hou : W.output = w.output) :
    ∃ v' w', (Builtin.append_ #[22, 22] 22 #[v, .slice (some ⟨w.heap.size, 0, none⟩) news.length news.length]).run Tryd.prog W = .ok v' w' ∧ Hid (OwnI w' base v' (zs ++ news)) ∧ ∀ w0, Below base w0 w → Below base w0 w' := by
  obtain ⟨i0, hi, hz0, hz1, hz2⟩ := info_parts infoInt
  have hblk : W.heap[w.heap.size]? = some (.cells (intVals news).toArray 3 (0, 0)) := by rw [hW]; exact heap_alloc_new w _
  have hbw : Below w.heap.size w W := ⟨hos, hta, hou, by rw [hW]; simp, fun k hk => by rw [hW]; exact Below.heap_alloc _ _ _ hk⟩
  have hown : W.ownsRow base 3 1 v zs.length (intVals zs) := h.keep hbw
  obtain ⟨v', w', hrun, hown', hg, _⟩ := run_append_own_at (P := Tryd.prog) W base 22 22 3 i0 (.int .i64 0) 1 8 Tryd.underlying22 hi hz0 hz1 hz2 rfl (by decide) v zs.length (intVals zs) hown ⟨w.heap.size, 0, none⟩ news.length news.length (intVals news)
    (by simp [intVals]) (fun j u hu => by rw [Go.WideShapes.add_plain, Lib.cell_of_heap hblk]; simpa using hu) (fun u hu => by simp [intVals] at hu; obtain ⟨x, _, rfl⟩ := hu; rfl) (by unfold maxLen; omega) (by omega) (Nat.le_trans hb hbw.size)
  refine ⟨v', w', hrun, Lib.hid ?_, fun w0 h0 => ?_⟩
  · unfold OwnI
    rw [List.length_append]
    simpa [intVals] using hown'
  · exact (h0.trans (hbw.mono hb)).grown hg (Nat.le_trans hb hbw.size) (fun k hk => (hown.lt k hk).1)

theorem OwnI.set2 {w : World} {base : Nat} {A : Option Addr} {c : Nat} {zs : List Int} {blk : Nat} (h : OwnI w base (.slice A zs.length c) zs) (hb : blk < base) (u u' : Value) : IntsAt ((w.setCell ⟨blk, 0, none⟩ u).setCell ⟨blk, 1, none⟩ u') A zs := by
  intro hn
  obtain ⟨g, cap, hv, hg, _⟩ := World.ownsRow.form h hn
  obtain ⟨b, off, hA, hlt, hc⟩ := h.ints hn
  have hgb : g = b := by injection hv with h1; rw [hA] at h1; injection h1 with h2; injection h2 with h3; exact h3.symm
  refine ⟨b, off, hA, by simpa using hlt, fun j hj => ?_⟩
  rw [World.cell?_setCell_far _ _ _ _ (by show blk ≠ b; omega), World.cell?_setCell_far _ _ _ _ (by show blk ≠ b; omega)]
  exact hc j hj
/-- append(v, news...) where the new ints lie somewhere -/
theorem appendS {W : World} {base : Nat} {v : Value} {zs : List Int} (h : OwnI W base v zs) {B : Option Addr} {news : List Int} (c2 : Nat) (hB : IntsAt W B news) (hn : 0 < news.length) (hl : zs.length + news.length ≤ 1000000) (hb : base ≤ W.heap.size) :
    ∃ v' w', (Builtin.append_ #[22, 22] 22 #[v, .slice B news.length c2]).run Tryd.prog W = .ok v' w' ∧ Hid (OwnI w' base v' (zs ++ news)) ∧ ∀ w0, Below base w0 W → Below base w0 w' := by
  obtain ⟨i0, hi, hz0, hz1, hz2⟩ := info_parts infoInt
  obtain ⟨b, off, rfl, hlt, hc⟩ := hB hn
  obtain ⟨v', w', hrun, hown', hg, _⟩ := run_append_own_at (P := Tryd.prog) W base 22 22 3 i0 (.int .i64 0) 1 8 Tryd.underlying22 hi hz0 hz1 hz2 rfl (by decide) v zs.length (intVals zs) h ⟨b, off, none⟩ news.length c2 (intVals news)
    (by simp [intVals]) (fun j u hu => by
      have hj : j < news.length := by simpa [intVals] using (List.getElem?_eq_some_iff.1 hu).1
      rw [Go.WideShapes.add_plain, hc j hj]
      simpa [intVals, nth, hj] using hu) (fun u hu => by simp [intVals] at hu; obtain ⟨x, _, rfl⟩ := hu; rfl) (by unfold maxLen; omega) (by omega) hb
  refine ⟨v', w', hrun, Lib.hid ?_, fun w0 h0 => ?_⟩
  · unfold OwnI
    rw [List.length_append]
    simpa [intVals] using hown'
  · exact h0.grown hg hb (fun k hk => (h.lt k hk).1)

theorem ints_new (w : World) (news : List Int) (t : TypeId) : IntsAt (w.alloc (.cells (intVals news).toArray t)) (some ⟨w.heap.size, 0, none⟩) news := by
  intro _
  refine ⟨w.heap.size, 0, rfl, by simp, fun j hj => ?_⟩
  rw [cell_box]
  simp [intVals, nth, hj]
/-- the same, as a step of a walk -/
theorem wpI {ops : Array Oper} {rest : List Oper} {o : Oper} {a : Act} {Q : Exit → Act → World → Prop} {W : World} (hgd : o.guard = none) (s x : Operand) (ho : o.op = .call { callee := .builtin .append, args := #[s, x], argTypes := #[22, 22] })
    (base : Nat) {v : Value} {zs : List Int} (hs : a.eval s = v) (h : OwnI W base v zs) {B : Option Addr} (news : List Int) {c2 : Nat} (hx : a.eval x = .slice B news.length c2) (hB : IntsAt W B news) (hn : 0 < news.length) (hl : zs.length + news.length ≤ 1000000) (hb : base ≤ W.heap.size)
    (hK : ∀ v' w', Hid (OwnI w' base v' (zs ++ news)) → (∀ w0, Below base w0 W → Below base w0 w') → wpList Tryd.prog ops Q rest (a.put o.dst v') w') : wpList Tryd.prog ops Q (o :: rest) a W := by
  obtain ⟨i0, hi, hz0, hz1, hz2⟩ := info_parts infoInt
  obtain ⟨b, off, rfl, hlt, hc⟩ := hB hn
  refine wpList_append_own W hgd s x 22 ho base 3 i0 (.int .i64 0) 1 8 Tryd.underlying22 hi hz0 hz1 hz2 rfl (by decide) v zs.length (intVals zs) hs h ⟨b, off, none⟩ news.length c2 (intVals news) hx
    (by simp [intVals]) (fun j u hu => by
      have hj : j < news.length := by simpa [intVals] using (List.getElem?_eq_some_iff.1 hu).1
      rw [Go.WideShapes.add_plain, hc j hj]
      simpa [intVals, nth, hj] using hu) (fun u hu => by simp [intVals] at hu; obtain ⟨x, _, rfl⟩ := hu; rfl) (by unfold maxLen; omega) (by omega) hb ?_
  intro v' w' hown' hg _
  refine hK v' w' (Lib.hid ?_) (fun w0 h0 => ?_)
  · unfold OwnI
    rw [List.length_append]
    simpa [intVals] using hown'
  · exact h0.grown hg hb (fun k hk => (h.lt k hk).1)

theorem stepI {ops : Array Oper} {o : Oper} {a : Act} {K : Act → World → Prop} {Q : Exit → Act → World → Prop} {E : Prop} {W : World} (hgd : o.guard = none) (s x : Operand) (ho : o.op = .call { callee := .builtin .append, args := #[s, x], argTypes := #[22, 22] })
    (base : Nat) {v : Value} {zs : List Int} (hs : a.eval s = v) (h : OwnI W base v zs) {B : Option Addr} (news : List Int) {c2 : Nat} (hx : a.eval x = .slice B news.length c2) (hB : IntsAt W B news) (hn : 0 < news.length) (hl : zs.length + news.length ≤ 1000000) (hb : base ≤ W.heap.size)
    (hK : ∀ v' w', Hid (OwnI w' base v' (zs ++ news)) → (∀ w0, Below base w0 W → Below base w0 w') → K (a.put o.dst v') w') : if Region.wanted o (yielded ops a.tmps) = true then Oper.wp Tryd.prog o a W K Q else E := by
  rw [if_pos (by simp [Region.wanted, hgd])]
  obtain ⟨i0, hi, hz0, hz1, hz2⟩ := info_parts infoInt
  obtain ⟨b, off, rfl, hlt, hc⟩ := hB hn
  refine wp_append_own W s x 22 ho base 3 i0 (.int .i64 0) 1 8 Tryd.underlying22 hi hz0 hz1 hz2 rfl (by decide) v zs.length (intVals zs) hs h ⟨b, off, none⟩ news.length c2 (intVals news) hx
    (by simp [intVals]) (fun j u hu => by
      have hj : j < news.length := by simpa [intVals] using (List.getElem?_eq_some_iff.1 hu).1
      rw [Go.WideShapes.add_plain, hc j hj]
      simpa [intVals, nth, hj] using hu) (fun u hu => by simp [intVals] at hu; obtain ⟨x, _, rfl⟩ := hu; rfl) (by unfold maxLen; omega) (by omega) hb ?_
  intro v' w' hown' hg _
  refine hK v' w' (Lib.hid ?_) (fun w0 h0 => ?_)
  · unfold OwnI
    rw [List.length_append]
    simpa [intVals] using hown'
  · exact h0.grown hg hb (fun k hk => (h.lt k hk).1)

abbrev DOut := List Int × Int × Int
def missD (pol : Int) (b : UInt8) : List Int := if pol = 2 then [65533] else if pol = 4 then [92, 120, (hexC (b.toNat / 16) : Int), (hexC (b.toNat % 16) : Int)] else []
def decFrom (zs : List Int) (pol : Int) : List UInt8 → Nat → List Int → DOut
  | [], _, acc => (acc, 0, 0)
  | b :: r, i, acc => if nth zs b.toNat ≠ -1 then decFrom zs pol r (i + 1) (acc ++ [nth zs b.toNat]) else if pol = 1 then ([], 9, (i : Int)) else decFrom zs pol r (i + 1) (acc ++ missD pol b)
def decR (zs : List Int) (l : List UInt8) (pol : Int) : DOut :=
  if checkC zs ≠ 0 then ([], 11, 0) else if polB pol = false then ([], 8, 0) else decFrom zs pol l 0 []
def DecodeOut (r : DOut) (w : World) (e : Ending) (w' : World) : Prop :=
  ∃ A c, e = .returned (.tuple #[.slice A r.1.length c, .agg #[.int .i64 r.2.1, .int .i64 r.2.2]]) ∧ IntsAt w' A r.1 ∧ Below w.heap.size w w'

theorem dec_hit {zs : List Int} {pol : Int} {l : List UInt8} {k : Nat} {acc : List Int} {r : DOut} (hk : k < l.length) (h : r = decFrom zs pol (l.drop k) k acc) (hx : ¬ nth zs (btN l k) = -1) : r = decFrom zs pol (l.drop (k + 1)) (k + 1) (acc ++ [nth zs (btN l k)]) := by
  rw [h, bytes_drop hk, decFrom, ← btN_get hk, if_pos hx]
theorem dec_fail {zs : List Int} {pol : Int} {l : List UInt8} {k : Nat} {acc : List Int} {r : DOut} (hk : k < l.length) (h : r = decFrom zs pol (l.drop k) k acc) (hx : nth zs (btN l k) = -1) (hp : pol = 1) : r = ([], 9, (k : Int)) := by
  rw [h, bytes_drop hk, decFrom, ← btN_get hk, if_neg (by simp [hx]), if_pos hp]
theorem dec_miss {zs : List Int} {pol : Int} {l : List UInt8} {k : Nat} {acc : List Int} {r : DOut} (hk : k < l.length) (h : r = decFrom zs pol (l.drop k) k acc) (hx : nth zs (btN l k) = -1) (hp : ¬ pol = 1) : r = decFrom zs pol (l.drop (k + 1)) (k + 1) (acc ++ missD pol l[k]) := by
  rw [h, bytes_drop hk, decFrom, ← btN_get hk, if_neg (by simp [hx]), if_neg hp]
theorem missD_le (pol : Int) (b : UInt8) : (missD pol b).length ≤ 4 := by
  unfold missD
  split
  · simp
  · split <;> simp

theorem missD_esc {pol : Int} {l : List UInt8} {k : Nat} (hk : k < l.length) (h : pol = 4) : missD pol l[k] = [92, 120, (btN (hexB (btN l k)) 0 : Int), (btN (hexB (btN l k)) 1 : Int)] := by
  have hb := btN_lt l k
  have c1 := hexC_le (btN l k / 16) (by omega)
  have c2 := hexC_le (btN l k % 16) (by omega)
  have e1 : btN (hexB (btN l k)) 0 = hexC (btN l k / 16) := by simp [hexB, btN]; simp [btN] at c1; omega
  have e2 : btN (hexB (btN l k)) 1 = hexC (btN l k % 16) := by simp [hexB, btN]; simp [btN] at c2; omega
  rw [e1, e2, btN_get hk]
  simp [missD, h]

set_option maxHeartbeats 4000000 in
set_option maxRecDepth 100000 in
theorem csDecode (zs : List Int) (A : Option Addr) (cap : Nat) (l : List UInt8) (pol : Int) (w : World) (hA : IntsAt w A zs) (hl : zs.length ≤ 300) (hl2 : l.length ≤ 1000) (hD : Dig w) :
    Calls Tryd.prog 23 #[.agg #[.slice A zs.length cap], .string ⟨l.toArray⟩, .int .i64 pol] w (DecodeOut (decR zs l pol) w) := by
  have HC := Lib.hid (fun w' hb => csCheck zs A cap w' (IntsAt.keep hA hb) hl)
  have HA := Lib.hid hA
  have HD := Lib.hid hD
  clear hA hD
  by_cases hc : checkC zs = 0
  · have hc' : (checkC zs != 0) = false := by simpa using hc
    have hz1 : zs.length ≤ 256 := by have := (codes_of_check hc).1; omega
    have hz2 : 256 ≤ zs.length := by have := (codes_of_check hc).1; omega
    cases hp : polB pol
    · have HV := Lib.hid (show decR zs l pol = ([], 8, 0) by simp [decR, hc, hp])
      have Hc := Lib.hid hc
      have Hp := Lib.hid hp
      clear hc hp
      go_enter Tryd.func23, Tryd.ntmps23
      go_wp2_with fail
      refine (HC.out _ (bUp (bBox _ _) (bBox _ _))).mono ?_
      rintro e w1 ⟨rfl, hb1⟩
      obtain ⟨bc, fc, _, ff, hbel, hsz⟩ := two_boxes hb1
      have f0 := fc 0
      have f1 := fc 1
      have g0 := ff 0
      have g1 := ff 1
      clear hb1 bc fc ff
      go_wp2_with (go_at_call 30; refine (csKnown _ _).mono ?_; rintro e w' ⟨rfl, rfl⟩; rw [Hp.out])
      refine bodyPost_ret (v := .tuple #[.slice none 0 0, .agg #[.int .i64 8, .int .i64 0]]) (by simp [results, Tryd.results23, go_sem, f0, f1]) rfl ?_
      rw [HV.out]
      exact ⟨none, 0, rfl, IntsAt.nil, bSet2 hbel (Nat.le_succ _) _ _⟩
    · have HV := Lib.hid (show decR zs l pol = decFrom zs pol l 0 [] by simp [decR, hc, hp])
      have Hc := Lib.hid hc
      have Hp := Lib.hid hp
      clear hc hp
      go_enter Tryd.func23, Tryd.ntmps23
      go_wp2_with fail
      refine (HC.out _ (bUp (bBox _ _) (bBox _ _))).mono ?_
      rintro e w1 ⟨rfl, hb1⟩
      obtain ⟨bc, fc, _, ff, hbel, hsz⟩ := two_boxes hb1
      have b0 := bc 0
      have f0' := fc 0
      have f1' := fc 1
      have g0' := ff 0
      have g1' := ff 1
      clear hb1 bc fc ff
      go_wp2_with (go_at_call 30; refine (csKnown _ _).mono ?_; rintro e w' ⟨rfl, rfl⟩; rw [Hp.out])
      go_loopw [8, 22] (fun o i wr => ∃ (k : Nat) (acc : List Int), k ≤ l.length ∧ i = .int .i64 k ∧ Hid (OwnI wr w1.heap.size o acc) ∧ acc.length ≤ 4 * k ∧ Hid (decR zs l pol = decFrom zs pol (l.drop k) k acc) ∧ Below w1.heap.size w1 wr) (fun _ i _ => l.length - (intOf i).toNat)
      case atStart => exact ⟨0, [], Nat.zero_le _, rfl, Lib.hid (OwnI.nil _ _), by simp, HV, Below.refl _ _⟩
      case round =>
        obtain ⟨k, acc, hk, rfl, HO, hacc, HE, hbr⟩ := hrel
        have c0 := cell_keep hbr b0
        by_cases hlt : k < l.length
        · have hbt := btN_lt l k
          have hbi : (btN l k : Int) < zs.length := by omega
          have hki : (k : Int) < l.length := by omega
          obtain ⟨b, off, rfl, hb, hcc⟩ := (HA.out.keep (bUp hbel hbr)).at_ (k := btN l k) (by omega)
          have k0 := cell_regrown c0
          have k1 := cell_regrown hcc
          by_cases hx : nth zs (btN l k) = -1
          · have hx' : (nth zs (btN l k) != -1) = false := by simpa using hx
            by_cases hp1 : pol = 1
            · have HE' := Lib.hid (dec_fail hlt HE.out hx hp1)
              have q1 : (pol == 1) = true := by simpa using hp1
              have Hx := Lib.hid hx
              have Hp1 := Lib.hid hp1
              clear hx hp1
              go_wp2_with fail
              refine wp_region_quiet_below (by kernel_rfl) (by kernel_rfl) ?_
              repeat (go_big_quiet_step (fail))
              refine wpQuiet_nil ?_
              rintro _ ⟨⟨dq, osq⟩, rfl⟩
              have hb2 := below_regrown wr dq osq
              generalize grow (redrawn wr dq) osq = w2 at hb2 ⊢
              have hbw := bUp hbr hb2
              have f0 := cell_keep hbw f0'
              have f1 := cell_keep hbw f1'
              have g0 := (hbw.frozen (p := ⟨w.heap.size + 1, 0, none⟩) hsz).trans g0'
              have g1 := (hbw.frozen (p := ⟨w.heap.size + 1, 1, none⟩) hsz).trans g1'
              go_wp2_with fail
              refine bodyPost_ret (v := .tuple #[.slice none 0 0, .agg #[.int .i64 9, .int .i64 k]]) (by simp [results, Tryd.results23, go_sem, f0, f1]) rfl ?_
              rw [HE'.out]
              exact ⟨none, 0, rfl, IntsAt.nil, bSet2 (bUp hbel hbw) (Nat.le_succ _) _ _⟩
            have HE' := Lib.hid (dec_miss hlt HE.out hx hp1)
            have hml := missD_le pol l[k]
            have q1 : (pol == 1) = false := by simpa using hp1
            by_cases hp2 : pol = 2
            · have q2 : (pol == 2) = true := by simpa using hp2
              have HM := Lib.hid (show missD pol l[k] = [65533] by simp [missD, hp2])
              have Hx := Lib.hid hx
              have Hp1 := Lib.hid hp1
              have Hp2 := Lib.hid hp2
              clear hx hp1 hp2
              clear hml
              go_wp2_with fail
              refine wp_region_quiet_below (by kernel_rfl) (by kernel_rfl) ?_
              repeat (go_big_quiet_step (fail))
              refine wpQuiet_nil ?_
              rintro _ ⟨⟨dq, osq⟩, rfl⟩
              have hb2 := below_regrown wr dq osq
              generalize grow (redrawn wr dq) osq = w2 at hb2 ⊢
              go_wp2_with (at_builtin; refine wpI rfl _ _ rfl w1.heap.size rfl (HO.out.keep (bUp hb2 (bBox _ _))) [65533] rfl (ints_new _ _ _) (by simp) ?c1 ?c2 ?_)
              case c1 => simp; omega
              case c2 => have h1 := hbr.size; have h2 := hb2.size; simp; omega
              intro v' w3 hown3 hb3
              have hb4 := hb3 w1 (bUp (bUp hbr hb2) (bBox _ _))
              clear hb3
              go_wp2_with fail
              go_roundw
              case rel => exact ⟨k + 1, _, by omega, by go_num, hown3, by simp; omega, Lib.hid (by rw [HE'.out, HM.out]), hb4⟩
              case measure => simp [intOf]; omega
            have q2 : (pol == 2) = false := by simpa using hp2
            by_cases hp4 : pol = 4
            · have q4 : (pol == 4) = true := by simpa using hp4
              have HM := Lib.hid (missD_esc hlt hp4)
              have hh : (hexB (btN l k)).length = 2 := rfl
              have hw0 : IntKind.i64.wrap (btN (hexB (btN l k)) 0) = btN (hexB (btN l k)) 0 := by have := btN_lt (hexB (btN l k)) 0; exact IntWalk.i64_in (btN (hexB (btN l k)) 0) (by omega)
              have hw1 : IntKind.i64.wrap (btN (hexB (btN l k)) 1) = btN (hexB (btN l k)) 1 := by have := btN_lt (hexB (btN l k)) 1; exact IntWalk.i64_in (btN (hexB (btN l k)) 1) (by omega)
              have hn0 : 0 < (hexB (btN l k)).length := by omega
              have hn1 : 1 < (hexB (btN l k)).length := by omega
              have hh0 : (0 : Int) < (hexB (btN l k)).length := by omega
              have hh1 : (1 : Int) < (hexB (btN l k)).length := by omega
              have Hx := Lib.hid hx
              have Hp1 := Lib.hid hp1
              have Hp2 := Lib.hid hp2
              have Hp4 := Lib.hid hp4
              clear hx hp1 hp2 hp4
              clear hml hh
              go_wp2_with fail
              refine wp_region_quiet_below (by kernel_rfl) (by kernel_rfl) ?_
              repeat (go_big_quiet_step (fail))
              refine wpQuiet_nil ?_
              rintro _ ⟨⟨dq, osq⟩, rfl⟩
              have hb2 := below_regrown wr dq osq
              generalize grow (redrawn wr dq) osq = w2 at hb2 ⊢
              go_wp2_with (go_at_call 45; refine (csHex (btN l k) hbt _ (HD.out.keep (bUp (bUp hbel hbr) hb2))).mono ?_; rintro e w3 ⟨rfl, hb3⟩)
              have hbw := bUp (bUp hbr hb2) hb3
              have hO4 := Lib.hid (HO.out.keep (bUp hb2 hb3))
              have hlA : acc.length + 4 ≤ 1000000 := by omega
              have hsz3 := hbw.size
              clear hb2 hb3
              go_region_law (refine stepI rfl _ _ rfl w1.heap.size rfl (hO4.out.keep (bUp (bBox _ _) (Below.refl _ _).drew)) [92, 120, (btN (hexB (btN l k)) 0 : Int), (btN (hexB (btN l k)) 1 : Int)] rfl (IntsAt.keep (ints_new _ _ _) (Below.refl _ _).drew) (by simp) hlA (by simp; omega) ?_; intro v' w5 hown4 hb6)
              all_goals
                have hb5 := hb6 w1 (bUp (bUp hbw (bBox _ _)) (Below.refl _ _).drew)
                clear hb6
                go_wp2_with fail
                go_roundw
                case rel => exact ⟨k + 1, _, by omega, by go_num, hown4, by simp; omega, Lib.hid (by rw [HE'.out, HM.out]), hb5⟩
                case measure => simp [intOf]; omega
            · have q4 : (pol == 4) = false := by simpa using hp4
              have HM := Lib.hid (show missD pol l[k] = [] by simp [missD, hp2, hp4])
              have Hx := Lib.hid hx
              have Hp1 := Lib.hid hp1
              have Hp2 := Lib.hid hp2
              have Hp4 := Lib.hid hp4
              clear hx hp1 hp2 hp4
              clear hml
              go_wp2_with fail
              refine wp_region_quiet_below (by kernel_rfl) (by kernel_rfl) ?_
              repeat (go_big_quiet_step (fail))
              refine wpQuiet_nil ?_
              rintro _ ⟨⟨dq, osq⟩, rfl⟩
              have hb2 := below_regrown wr dq osq
              generalize grow (redrawn wr dq) osq = w2 at hb2 ⊢
              have HO2 := Lib.hid (HO.out.keep hb2)
              go_wp2_with fail
              go_roundw
              case rel => exact ⟨k + 1, acc, by omega, by go_num, HO2, by omega, Lib.hid (by rw [HE'.out, HM.out, List.append_nil]), bUp hbr hb2⟩
              case measure => simp [intOf]; omega
          · have hx' : (nth zs (btN l k) != -1) = true := by simpa using hx
            have HE' := Lib.hid (dec_hit hlt HE.out hx)
            have Hx := Lib.hid hx
            clear hx
            go_wp2_with fail
            refine wp_region_quiet_below (by kernel_rfl) (by kernel_rfl) ?_
            repeat (go_big_quiet_step (fail))
            refine wpQuiet_nil ?_
            rintro _ ⟨⟨dq, osq⟩, rfl⟩
            have hb2 := below_regrown wr dq osq
            generalize grow (redrawn wr dq) osq = w2 at hb2 ⊢
            go_wp2_with (at_builtin; refine wpI rfl _ _ rfl w1.heap.size rfl (HO.out.keep (bUp hb2 (bBox _ _))) [nth zs (btN l k)] rfl (ints_new _ _ _) (by simp) ?c3 ?c4 ?_)
            case c3 => simp; omega
            case c4 => have h1 := hbr.size; have h2 := hb2.size; simp; omega
            intro v' w3 hown3 hb3
            have hb4 := hb3 w1 (bUp (bUp hbr hb2) (bBox _ _))
            clear hb3
            go_wp2_with fail
            go_roundw
            case rel => exact ⟨k + 1, _, by omega, by go_num, hown3, by simp; omega, HE', hb4⟩
            case measure => simp [intOf]; omega
        · have hki : ¬ (k : Int) < l.length := by omega
          obtain ⟨A', c', rfl⟩ := HO.out.form
          have HE' := Lib.hid (show decR zs l pol = (acc, 0, 0) by rw [HE.out, List.drop_eq_nil_of_le (by omega)]; rfl)
          have f0 := cell_keep hbr f0'
          have f1 := cell_keep hbr f1'
          have g0 := (hbr.frozen (p := ⟨w.heap.size + 1, 0, none⟩) hsz).trans g0'
          have g1 := (hbr.frozen (p := ⟨w.heap.size + 1, 1, none⟩) hsz).trans g1'
          go_wp2_with fail
          refine bodyPost_ret (v := .tuple #[.slice A' acc.length c', .agg #[.int .i64 0, .int .i64 0]]) (by simp [results, Tryd.results23, go_sem, f0, f1]) rfl ?_
          rw [HE'.out]
          exact ⟨A', c', rfl, HO.out.set2 hsz _ _, bSet2 (bUp hbel hbr) (Nat.le_succ _) _ _⟩
  · have hc' : (checkC zs != 0) = true := by simpa using hc
    have HV := Lib.hid (show decR zs l pol = ([], 11, 0) by simp [decR, hc])
    have Hc := Lib.hid hc
    clear hc
    go_enter Tryd.func23, Tryd.ntmps23
    go_wp2_with fail
    refine (HC.out _ (bUp (bBox _ _) (bBox _ _))).mono ?_
    rintro e w1 ⟨rfl, hb1⟩
    obtain ⟨bc, fc, _, ff, hbel, hsz⟩ := two_boxes hb1
    have f0 := fc 0
    have f1 := fc 1
    have g0 := ff 0
    have g1 := ff 1
    clear hb1 bc fc ff
    go_wp2_with fail
    refine bodyPost_ret (v := .tuple #[.slice none 0 0, .agg #[.int .i64 11, .int .i64 0]]) (by simp [results, Tryd.results23, go_sem, f0, f1]) rfl ?_
    rw [HV.out]
    exact ⟨none, 0, rfl, IntsAt.nil, bSet2 hbel (Nat.le_succ _) _ _⟩
end Go.Proofs.YthpiopjpipdgnaaDoor
