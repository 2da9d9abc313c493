/- breakrule.Check at one rule of two patterns of one class: classesValid, formed Maps keyed by pointers into one block size of a pattern of one class -/
import Derived.Test.YtlmdjggpeiddoaaDoorD13
namespace Go.Proofs.YtlmdjggpeiddoaaDoor
open Go.RowKit Go.Sort

set_option maxHeartbeats 4000000 in
set_option maxRecDepth 100000 in
theorem classesValid1 (k : Int) (hk : k = 0 ∨ k = 1) (m : Option Nat) (A : Option Addr) (c : Nat) (w : World) (hA : IntsAt w A [k]) :
    Calls Tryd.prog 82 #[.agg #[.int .i64 2, .map m], .slice A 1 c] w fun e w' => e = .returned (.bool true) ∧ Below w.heap.size w w' := by
  obtain ⟨b, off, rfl, hb, hc⟩ := hA.at_ (k := 0) (by simp)
  have hc : w.cell? ⟨b, off, none⟩ = some (.int .i64 k) := hc
  clear hA
  rcases hk with rfl | rfl
  all_goals
    go_enter Tryd.func82, Tryd.ntmps82
    go_wp2_with fail
    refine wp_loop_rounds 1 ?_
    rw [rounds_succ]
    go_wp2_with fail
    go_ret
    exact ⟨rfl, bBox _ _⟩
theorem IntsAt.one {w : World} {b off : Nat} {k : Int} (h : w.cell? ⟨b, off, none⟩ = some (.int .i64 k)) : IntsAt w (some ⟨b, off, none⟩) [k] := fun _ => ⟨b, off, rfl, block_lt_of_cell h, fun j hj => by
  obtain rfl : j = 0 := by simpa using hj
  exact h⟩
/-- a pattern of the class k -/
structure PatAt (w : World) (L o : Nat) (k : Int) (C oc cc : Nat) : Prop where
  kind : w.cell? ⟨L, o, none⟩ = some (.int .i64 1)
  cls : w.cell? ⟨L, o + 1, none⟩ = some (.slice (some ⟨C, oc, none⟩) 1 cc)
  subs : w.cell? ⟨L, o + 2, none⟩ = some (.slice none 0 0)
  ck : w.cell? ⟨C, oc, none⟩ = some (.int .i64 k)
theorem PatAt.keep {w w' : World} {L o : Nat} {k : Int} {C oc cc : Nat} (h : PatAt w L o k C oc cc) (hb : Below w.heap.size w w') : PatAt w' L o k C oc cc :=
  ⟨cell_keep hb h.kind, cell_keep hb h.cls, cell_keep hb h.subs, cell_keep hb h.ck⟩

set_option maxHeartbeats 4000000 in
set_option maxRecDepth 100000 in
theorem formed1 (k : Int) (hk : k = 0 ∨ k = 1) (m : Option Nat) (L o C oc cc : Nat) (w : World) (hP : PatAt w L o k C oc cc) :
    Calls Tryd.prog 65 #[.agg #[.int .i64 2, .map m], .pointer (some ⟨L, o, none⟩)] w fun e w' => e = .returned (.bool true) ∧ Below w.heap.size w w' := by
  have HC := Lib.hid (fun w' (h : IntsAt w' (some ⟨C, oc, none⟩) [k]) => classesValid1 k hk m (some ⟨C, oc, none⟩) cc w' h)
  have hbx := bBox w (.cells #[.int .i64 2, .map m] 72)
  have HP := Lib.hid (hP.keep hbx)
  obtain ⟨p0, p1, p2, p3⟩ := hP
  have hL : L < w.heap.size := block_lt_of_cell p0
  have hC : C < w.heap.size := block_lt_of_cell p3
  clear hk
  go_enter Tryd.func65, Tryd.ntmps65
  go_upto_region 3 with fail
  have b0 : (w.alloc (.cells #[.int .i64 2, .map m] 72)).cell? ⟨w.heap.size, 0, none⟩ = some (.int .i64 2) := cell_box _ _ _ 0
  have b1 : (w.alloc (.cells #[.int .i64 2, .map m] 72)).cell? ⟨w.heap.size, 1, none⟩ = some (.map m) := cell_box _ _ _ 1
  generalize w.alloc (.cells #[.int .i64 2, .map m] 72) = w1 at hbx HP b0 b1 ⊢
  have CQ := Lib.hid (callsQ (w := w1) (v := .bool true) (fun w' hb => HC.out w' (IntsAt.one (HP.out.keep hb).ck)))
  clear p0 p1 p2 p3
  have r1 := cell_regrown HP.out.cls
  have r2 := cell_regrown HP.out.subs
  have r3 := cell_regrown b0
  have r4 := cell_regrown b1
  refine wp_region_quiet_below (by kernel_rfl) (by kernel_rfl) ?_
  repeat (go_big_quiet_step (exact CQ.out _ _))
  refine wpQuiet_nil ?_
  rintro _ ⟨⟨dq, osq⟩, rfl⟩
  have hb2 := below_regrown w1 dq osq
  generalize grow (redrawn w1 dq) osq = w2 at hb2 ⊢
  go_wp2_with fail
  go_ret
  exact ⟨rfl, bUp hbx hb2⟩
end Go.Proofs.YtlmdjggpeiddoaaDoor
namespace Go.Proofs.YtlmdjggpeiddoaaDoor
open Go.RowKit Go.Sort

theorem undP : Tryd.prog.underlying 78 = some (.pointer 56) := by kernel_rfl
theorem infoPat : (Tryd.prog.info? 56).map (fun i => i.size) = some 3 := by kernel_rfl
theorem eq_in (d L o o' : Nat) (w : World) : (Op.equalIn (d + 1) 78 (.pointer (some ⟨L, o, none⟩)) (.pointer (some ⟨L, o', none⟩))).run Tryd.prog w = .ok (decide (o = o')) w := by
  have hs : (sizeOf 56).run Tryd.prog w = .ok 3 w := by kernel_rfl
  unfold Op.equalIn
  simp [run_underlying undP, sameAddr, Result.andThen, hs]
  by_cases h : o = o'
  · subst h
    simp
  · have hn : (⟨L, o, none⟩ : Addr) ≠ ⟨L, o', none⟩ := fun e => by
      injection e with _ e2 _
      exact h e2
    rw [beq_eq_false_iff_ne.2 hn, decide_eq_false h]
theorem eq_ptr (L o o' : Nat) (w : World) : (Op.equal 78 (.pointer (some ⟨L, o, none⟩)) (.pointer (some ⟨L, o', none⟩))).run Tryd.prog w = .ok (decide (o = o')) w := eq_in (Op.maxDepth - 1) L o o' w
/-- the entry of the pointer to cell o of block L -/
def ent (L o : Nat) (v : Value) (born : Nat) : MapEntry := { key := .pointer (some ⟨L, o, none⟩), val := v, born := born }
theorem find_nil (L o : Nat) (w : World) : (Instr.findKey 78 (.pointer (some ⟨L, o, none⟩)) []).run Tryd.prog w = .ok none w := by
  simp [Instr.findKey, run_underlying undP, Result.andThen, Instr.findNow]
theorem find_one (L o o' : Nat) (v : Value) (c : Nat) (w : World) : (Instr.findKey 78 (.pointer (some ⟨L, o, none⟩)) [ent L o' v c]).run Tryd.prog w = .ok (if o = o' then some (0, v) else none) w := by
  simp only [Instr.findKey, Sem.run_bind, run_underlying undP, Result.andThen_ok, Instr.findNow, Instr.sameNow, ent, Instr.findAsking, eq_ptr]
  by_cases h : o = o' <;> simp [h]
theorem find_two (L o o' o'' : Nat) (v v' : Value) (c c' : Nat) (w : World) : (Instr.findKey 78 (.pointer (some ⟨L, o, none⟩)) [ent L o' v c, ent L o'' v' c']).run Tryd.prog w = .ok (if o = o' then some (0, v) else if o = o'' then some (1, v') else none) w := by
  simp only [Instr.findKey, Sem.run_bind, run_underlying undP, Result.andThen_ok, Instr.findNow, Instr.sameNow, ent, Instr.findAsking, eq_ptr]
  by_cases h : o = o' <;> by_cases h2 : o = o'' <;> simp [h, h2, eq_ptr]
  split <;> rfl
theorem undM : Tryd.prog.underlying 70 = some (.map 78 76) := by kernel_rfl
theorem checkP (b : Bool) (L o : Nat) (w : World) : (Instr.checkKey b 10000 78 (.pointer (some ⟨L, o, none⟩))).run Tryd.prog w = .ok () w := by
  unfold Instr.checkKey
  simp [run_underlying undP, Result.andThen]
/-- the map at b holds es -/
def MapP (w : World) (b : Nat) (es : Array MapEntry) (c : Nat) : Prop := w.heap[b]? = some (.map es c)
def setMap (w : World) (b : Nat) (es : Array MapEntry) (c : Nat) : World := { w with heap := w.heap.setIfInBounds b (.map es c) }
theorem lookP {w : World} {b L o c : Nat} {es : Array MapEntry} (hb : MapP w b es c) (hf : (Instr.findKey 78 (.pointer (some ⟨L, o, none⟩)) es.toList).run Tryd.prog w = .ok none w) :
    (Instr.lookup 70 (.map (some b)) (.pointer (some ⟨L, o, none⟩)) true).run Tryd.prog w = .ok (.tuple #[.agg #[.int .i64 0, .int .i64 0], .bool false]) w := by
  unfold MapP at hb
  simp [Instr.lookup, run_underlying undM, MapKept.run_getObj_map hb, checkP, hf, Result.andThen]
theorem updNew {w : World} {b L o c : Nat} {es : Array MapEntry} {v : Value} (hb : MapP w b es c) (hf : (Instr.findKey 78 (.pointer (some ⟨L, o, none⟩)) es.toList).run Tryd.prog w = .ok none w) :
    (Instr.mapUpdate 70 (.map (some b)) (.pointer (some ⟨L, o, none⟩)) v).run Tryd.prog w = .ok () (setMap w b (es.push (ent L o v c)) (c + 1)) := by
  unfold MapP at hb
  simp [Instr.mapUpdate, run_underlying undM, MapKept.run_getObj_map hb, checkP, hf, MapKept.run_setObj_map _ hb, Result.andThen, ent, setMap]
theorem updOld {w : World} {b L o c i c0 : Nat} {es : Array MapEntry} {v v0 : Value} (hb : MapP w b es c) (hi : es[i]? = some (ent L o v0 c0)) (hf : (Instr.findKey 78 (.pointer (some ⟨L, o, none⟩)) es.toList).run Tryd.prog w = .ok (some (i, v0)) w) :
    (Instr.mapUpdate 70 (.map (some b)) (.pointer (some ⟨L, o, none⟩)) v).run Tryd.prog w = .ok () (setMap w b (es.modify i fun e => { e with key := .pointer (some ⟨L, o, none⟩), val := v }) c) := by
  unfold MapP at hb
  simp [Instr.mapUpdate, run_underlying undM, MapKept.run_getObj_map hb, checkP, hf, hi, MapKept.run_setObj_map _ hb, Result.andThen, ent, setMap, Instr.keyThatStays, Instr.sameBits]
theorem MapP.set {w : World} {b c c' : Nat} {es es' : Array MapEntry} (h : MapP w b es c) : MapP (setMap w b es' c') b es' c' := (MapKept.heap_set h).1
theorem grown_map {w : World} {b c c' : Nat} {es es' : Array MapEntry} (h : MapP w b es c) : w.grownBy (setMap w b es' c') (some b) := ⟨rfl, rfl, rfl, by simp [setMap], fun k _ hk => (MapKept.heap_set h).2 k (fun e => hk (by rw [e]))⟩
end Go.Proofs.YtlmdjggpeiddoaaDoor
namespace Go.Proofs.YtlmdjggpeiddoaaDoor
open Go.RowKit Go.Sort

theorem grown_trans {w w1 w2 : World} {r : Option Nat} (h1 : w.grownBy w1 r) (h2 : w1.grownBy w2 r) : w.grownBy w2 r :=
  ⟨h2.os.trans h1.os, h2.tape.trans h1.tape, h2.output.trans h1.output, Nat.le_trans h1.size h2.size, fun k hk hr => (h2.block k (Nat.lt_of_lt_of_le hk h1.size) hr).trans (h1.block k hk hr)⟩
theorem MapP.cell {w w' : World} {b c : Nat} {es : Array MapEntry} (h : MapP w b es c) (hg : w.grownBy w' (some b)) {a : Addr} {v : Value} (hc : w.cell? a = some v) : w'.cell? a = some v := by
  have hlt : a.block < w.heap.size := block_lt_of_cell hc
  by_cases e : a.block = b
  · unfold MapP at h
    subst e
    simp [World.cell?, h] at hc
  · have hk := hg.block a.block hlt (fun e2 => e (by injection e2))
    unfold World.cell? at hc ⊢
    rw [hk]
    exact hc
theorem MapP.keep {w w' : World} {b c : Nat} {es : Array MapEntry} (h : MapP w b es c) (hb : Below w.heap.size w w') : MapP w' b es c := (hb.block b (Array.getElem?_eq_some_iff.1 h).1).trans h
theorem MapP.blk {w w' : World} {b c x : Nat} {es : Array MapEntry} {cs : Array Value} {t : TypeId} (h : MapP w b es c) (hg : w.grownBy w' (some b)) (hc : Blk w x cs t) : Blk w' x cs t := hc.away hg (Away.of_map h)
theorem MapP.pat {w w' : World} {b c L o C oc cc : Nat} {k : Int} {es : Array MapEntry} (h : MapP w b es c) (hg : w.grownBy w' (some b)) (hP : PatAt w L o k C oc cc) : PatAt w' L o k C oc cc :=
  ⟨h.cell hg hP.kind, h.cell hg hP.cls, h.cell hg hP.subs, h.cell hg hP.ck⟩

theorem grown_new {w w1 : World} {r : Option Nat} (h : w.grownBy w1 r) {p : Addr} (hp : w.heap.size ≤ p.block) (u : Value) : w.grownBy (w1.setCell p u) r :=
  ⟨h.os, h.tape, h.output, by simpa using h.size, fun k hk hr => (Below.heap_setCell w1 p u k (by omega)).trans (h.block k hk hr)⟩
theorem MapP.setCell {w : World} {b c : Nat} {es : Array MapEntry} (h : MapP w b es c) {p : Addr} (hp : b ≠ p.block) (u : Value) : MapP (w.setCell p u) b es c := (Below.heap_setCell w p u b hp).trans h

theorem push_mod {es : Array MapEntry} {L o c : Nat} {v v0 : Value} : ((es.push (ent L o v0 c)).modify es.size fun e => { e with key := .pointer (some ⟨L, o, none⟩), val := v }) = es.push (ent L o v c) := by
  apply Array.ext_getElem?
  intro i
  rw [Array.getElem?_modify]
  by_cases h : i = es.size
  · subst h
    simp [ent]
  · by_cases h2 : i < es.size
    · simp [Array.getElem?_push, h, Ne.symm h]
    · simp [Array.getElem?_push, h, Ne.symm h]

set_option maxHeartbeats 4000000 in
set_option maxRecDepth 100000 in
theorem sizeG (es : Array MapEntry) (k : Int) (hk : k = 0 ∨ k = 1) (b L o C oc cc c : Nat) (w : World) (hno : ∀ w, (Instr.findKey 78 (.pointer (some ⟨L, o, none⟩)) es.toList).run Tryd.prog w = .ok none w) (hyes : ∀ v w, (Instr.findKey 78 (.pointer (some ⟨L, o, none⟩)) (es.push (ent L o v c)).toList).run Tryd.prog w = .ok (some (es.size, v)) w) (hP : PatAt w L o k C oc cc) (hb : MapP w b es c) :
    Calls Tryd.prog 46 #[.agg #[.int .i64 2, .map (some b)], .pointer (some ⟨L, o, none⟩)] w fun e w' => e = .returned (.agg #[.int .i64 1, .int .i64 1]) ∧ Hid (MapP w' b (es.push (ent L o (.agg #[.int .i64 1, .int .i64 1]) c)) (c + 1)) ∧ Hid (w.grownBy w' (some b)) := by
  have HF := Lib.hid (fun w' h => formed1 k hk (some b) L o C oc cc w' h)
  obtain ⟨p0, p1, p2, p3⟩ := hP
  have hL : L < w.heap.size := block_lt_of_cell p0
  have hC : C < w.heap.size := block_lt_of_cell p3
  have hbl : b < w.heap.size := (Array.getElem?_eq_some_iff.1 hb).1
  have hlk : ∀ w', MapP w' b es c → (Instr.lookup 70 (.map (some b)) (.pointer (some ⟨L, o, none⟩)) true).run Tryd.prog w' = .ok (.tuple #[.agg #[.int .i64 0, .int .i64 0], .bool false]) w' := fun w' h => lookP h (hno w')
  have hup : ∀ w' v, MapP w' b es c → (Instr.mapUpdate 70 (.map (some b)) (.pointer (some ⟨L, o, none⟩)) v).run Tryd.prog w' = .ok () (setMap w' b (es.push (ent L o v c)) (c + 1)) := fun w' v h => updNew h (hno w')
  have hup2 : ∀ w' v v0, MapP w' b (es.push (ent L o v0 c)) (c + 1) → (Instr.mapUpdate 70 (.map (some b)) (.pointer (some ⟨L, o, none⟩)) v).run Tryd.prog w' = .ok () (setMap w' b (es.push (ent L o v c)) (c + 1)) := fun w' v v0 h => (updOld (i := es.size) (v0 := v0) (c0 := c) h (by simp) (hyes v0 w')).trans (by rw [push_mod])
  have Hk := Lib.hid hk
  have Hno := Lib.hid hno
  have Hyes := Lib.hid hyes
  clear hk hno hyes
  go_enter Tryd.func46, Tryd.ntmps46
  go_upto_region 1 with fail
  have hB2 := bUp (bBox w (.cells #[.int .i64 2, .map (some b)] 72)) (bBox _ (.cells #[.int .i64 0, .int .i64 0] 76))
  have K1 : Blk ((w.alloc (.cells #[.int .i64 2, .map (some b)] 72)).alloc (.cells #[.int .i64 0, .int .i64 0] 76)) w.heap.size #[.int .i64 2, .map (some b)] 72 := (Blk.new w _ _).keep (bBox _ _)
  have K2 : Blk ((w.alloc (.cells #[.int .i64 2, .map (some b)] 72)).alloc (.cells #[.int .i64 0, .int .i64 0] 76)) (w.heap.size + 1) #[.int .i64 0, .int .i64 0] 76 := by
    have h := Blk.new (w.alloc (.cells #[.int .i64 2, .map (some b)] 72)) #[.int .i64 0, .int .i64 0] 76
    simpa using h
  generalize (w.alloc (.cells #[.int .i64 2, .map (some b)] 72)).alloc (.cells #[.int .i64 0, .int .i64 0] 76) = w2 at hB2 K1 K2 ⊢
  have hP2 := PatAt.keep ⟨p0, p1, p2, p3⟩ hB2
  have hb2 := MapP.keep hb hB2
  have i1 : w2.cell? ⟨w.heap.size, 1, none⟩ = some (.map (some b)) := K1.cell 1
  have hlk2 := hlk w2 hb2
  have hbx := bBox w2 (.cells #[.int .i64 0, .int .i64 0] 76)
  have hb3 := hb2.keep hbx
  have hu3 := hup _ (.agg #[.int .i64 0, .int .i64 0]) hb3
  have i2 : w.heap.size < w2.heap.size := K1.lt
  have Hlk := Lib.hid hlk
  have Hup := Lib.hid hup
  have Hup2 := Lib.hid hup2
  have HP2 := Lib.hid hP2
  have Hb2 := Lib.hid hb2
  have Hb3 := Lib.hid hb3
  have HB2 := Lib.hid hB2
  have Hbx := Lib.hid hbx
  have Hb := Lib.hid hb
  clear hlk hup hup2 hP2 hb2 hb3 hB2 hbx hb
  clear p0 p1 p2 p3
  go_upto_region 5 with fail
  have hgA := grown_trans (grown_below Hbx.out (some b)) (grown_map (es' := (es.push (ent L o (.agg #[.int .i64 0, .int .i64 0]) c))) (c' := c + 1) Hb3.out)
  have hb4 := Hb3.out.set (es' := (es.push (ent L o (.agg #[.int .i64 0, .int .i64 0]) c))) (c' := c + 1)
  generalize setMap (w2.alloc (.cells #[.int .i64 0, .int .i64 0] 76)) b (es.push (ent L o (.agg #[.int .i64 0, .int .i64 0]) c)) (c + 1) = w4 at hgA hb4 ⊢
  have hk4 := Hb2.out.blk hgA K1
  have hl4 := Hb2.out.blk hgA K2
  have hP4 := Hb2.out.pat hgA HP2.out
  have HG4 := Lib.hid (grown_trans (grown_below HB2.out (some b)) hgA)
  have HFc := Lib.hid (HF.out w4 hP4)
  have j0 : w4.cell? ⟨w.heap.size, 0, none⟩ = some (.int .i64 2) := hk4.cell 0
  have j1 : w4.cell? ⟨w.heap.size, 1, none⟩ = some (.map (some b)) := hk4.cell 1
  have Hk4 := Lib.hid hk4
  have Hl4 := Lib.hid hl4
  have HP4 := Lib.hid hP4
  have Hb4 := Lib.hid hb4
  clear hk4 hl4 hP4 hb4
  clear K1 K2 i1 hlk2 hu3 hgA i2
  go_wp2_with fail
  refine HFc.out.mono ?_
  rintro e w5 ⟨rfl, hb5⟩
  have hP5 := HP4.out.keep hb5
  have hb6 := Hb4.out.keep hb5
  have hk5 := Hk4.out.keep hb5
  have hl5 := Hl4.out.keep hb5
  have HG5 := Lib.hid (grown_trans HG4.out (grown_below hb5 (some b)))
  have p2 := hP5.subs
  have j0 : w5.cell? ⟨w.heap.size, 0, none⟩ = some (.int .i64 2) := hk5.cell 0
  have j1 : w5.cell? ⟨w.heap.size, 1, none⟩ = some (.map (some b)) := hk5.cell 1
  have hL5 : L < w5.heap.size := block_lt_of_cell p2
  have hs5 : w.heap.size < w5.heap.size := hk5.lt
  have hbx6 := bBox w5 (.cells #[.int .i64 1, .int .i64 1] 76)
  have hb7 := hb6.keep hbx6
  have hu7 := Hup2.out _ (.agg #[.int .i64 1, .int .i64 1]) _ hb7
  have hl7 := hl5.keep hbx6
  have hm7 := Blk.new w5 #[.int .i64 1, .int .i64 1] 76
  have HP5 := Lib.hid hP5
  have Hb6 := Lib.hid hb6
  have Hk5 := Lib.hid hk5
  have Hl5 := Lib.hid hl5
  have Hb7 := Lib.hid hb7
  have Hl7 := Lib.hid hl7
  have Hm7 := Lib.hid hm7
  have Hbx6 := Lib.hid hbx6
  clear hP5 hb6 hk5 hl5 hb7 hl7 hm7 hbx6
  clear HFc HF HG4
  go_wp2_with fail
  refine wp_loop_rounds 1 ?_
  rw [rounds_succ]
  go_upto_region 18 with fail
  have hg7 := grown_trans (grown_below Hbx6.out (some b)) (grown_map (es' := (es.push (ent L o (.agg #[.int .i64 1, .int .i64 1]) c))) (c' := c + 1) Hb7.out)
  have hM7 := Hb7.out.set (es' := (es.push (ent L o (.agg #[.int .i64 1, .int .i64 1]) c))) (c' := c + 1)
  have hm8 := Hb7.out.blk (grown_map (es' := (es.push (ent L o (.agg #[.int .i64 1, .int .i64 1]) c))) (c' := c + 1) Hb7.out) Hm7.out
  have hl8 := Hb7.out.blk (grown_map (es' := (es.push (ent L o (.agg #[.int .i64 1, .int .i64 1]) c))) (c' := c + 1) Hb7.out) Hl7.out
  generalize setMap (w5.alloc (.cells #[.int .i64 1, .int .i64 1] 76)) b (es.push (ent L o (.agg #[.int .i64 1, .int .i64 1]) c)) (c + 1) = w7 at hg7 hM7 hm8 hl8 ⊢
  have HGz := Lib.hid (grown_new (grown_new (grown_trans HG5.out hg7) (p := ⟨w.heap.size + 1, 0, none⟩) (Nat.le_succ _) (.int .i64 1)) (p := ⟨w.heap.size + 1, 1, none⟩) (Nat.le_succ _) (.int .i64 1))
  have HMz := Lib.hid ((hM7.setCell (p := ⟨w.heap.size + 1, 0, none⟩) (by show b ≠ w.heap.size + 1; omega) (.int .i64 1)).setCell (p := ⟨w.heap.size + 1, 1, none⟩) (by show b ≠ w.heap.size + 1; omega) (.int .i64 1))
  have HLz := Lib.hid ((hl8.setAll (i := 0) (.int .i64 1)).setAll (i := 1) (.int .i64 1))
  have t0 : w7.cell? ⟨w5.heap.size, 0, none⟩ = some (.int .i64 1) := hm8.cell 0
  have t1 : w7.cell? ⟨w5.heap.size, 1, none⟩ = some (.int .i64 1) := hm8.cell 1
  have s0 : w7.cell? ⟨w.heap.size + 1, 0, none⟩ = some (.int .i64 0) := hl8.cell 0
  have s1 : w7.cell? ⟨w.heap.size + 1, 1, none⟩ = some (.int .i64 0) := hl8.cell 1
  have s2 : w7.frozen? ⟨w.heap.size + 1, 0, none⟩ = false := hl8.frozen 0
  have s3 : w7.frozen? ⟨w.heap.size + 1, 1, none⟩ = false := hl8.frozen 1
  clear hg7 hM7 hm8 hl8 hu7 j0 j1 p2
  go_wp2_with fail
  generalize (w7.setCell ⟨w.heap.size + 1, 0, none⟩ (.int .i64 1)).setCell ⟨w.heap.size + 1, 1, none⟩ (.int .i64 1) = wz at HGz HMz HLz ⊢
  have f0 : wz.cell? ⟨w.heap.size + 1, 0, none⟩ = some (.int .i64 1) := HLz.out.cell 0
  have f1 : wz.cell? ⟨w.heap.size + 1, 1, none⟩ = some (.int .i64 1) := HLz.out.cell 1
  refine bodyPost_ret (v := .agg #[.int .i64 1, .int .i64 1]) (by simp [results, Tryd.results46, go_sem, f0, f1]) rfl ⟨rfl, HMz, HGz⟩
theorem size0 (k : Int) (hk : k = 0 ∨ k = 1) (b L o C oc cc c : Nat) (w : World) (hP : PatAt w L o k C oc cc) (hb : MapP w b #[] c) :
    Calls Tryd.prog 46 #[.agg #[.int .i64 2, .map (some b)], .pointer (some ⟨L, o, none⟩)] w fun e w' => e = .returned (.agg #[.int .i64 1, .int .i64 1]) ∧ Hid (MapP w' b #[ent L o (.agg #[.int .i64 1, .int .i64 1]) c] (c + 1)) ∧ Hid (w.grownBy w' (some b)) :=
  sizeG #[] k hk b L o C oc cc c w (find_nil L o) (fun v w' => by have := find_one L o o v c w'; rw [if_pos rfl] at this; exact this) hP hb
theorem size1 (k : Int) (hk : k = 0 ∨ k = 1) (b L o o' C oc cc c c' : Nat) (v : Value) (w : World) (hn : o ≠ o') (hP : PatAt w L o k C oc cc) (hb : MapP w b #[ent L o' v c'] c) :
    Calls Tryd.prog 46 #[.agg #[.int .i64 2, .map (some b)], .pointer (some ⟨L, o, none⟩)] w fun e w' => e = .returned (.agg #[.int .i64 1, .int .i64 1]) ∧ Hid (MapP w' b #[ent L o' v c', ent L o (.agg #[.int .i64 1, .int .i64 1]) c] (c + 1)) ∧ Hid (w.grownBy w' (some b)) :=
  sizeG #[ent L o' v c'] k hk b L o C oc cc c w (fun w' => by have := find_one L o o' v c' w'; rw [if_neg hn] at this; exact this) (fun v2 w' => by have := find_two L o o' o v v2 c' c w'; rw [if_neg hn, if_pos rfl] at this; exact this) hP hb
end Go.Proofs.YtlmdjggpeiddoaaDoor
