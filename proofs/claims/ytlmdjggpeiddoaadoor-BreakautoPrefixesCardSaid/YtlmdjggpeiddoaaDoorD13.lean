/- automaton: the machine turned round -/
import Derived.Test.YtlmdjggpeiddoaaDoorD12
namespace Go.Proofs.YtlmdjggpeiddoaaDoor
open Go.RowKit Go.Sort

/-- the flags that can come -/
def fl (b x : Bool) : List Bool := [x, b, !b]
def autR (b : Bool) (ss : List (List Bool)) : Nat → List (List Bool) × List Int
  | 0 => (ss, [])
  | c + 1 => (numB (autR b ss c).1 (fl b (if c = 0 then b else !b)), (autR b ss c).2 ++ [(idxB (autR b ss c).1 (fl b (if c = 0 then b else !b)) : Int)])
def autF (b : Bool) : Nat → List (List Bool) × List (List Int) × List (List Int)
  | 0 => ([fl b false], [], [])
  | i + 1 => ((autR b (autF b i).1 2).1, (autF b i).2.1 ++ [(autR b (autF b i).1 2).2], (autF b i).2.2 ++ [if (rowBl (autF b i).1 i).getD 0 false then [0] else []])
def nextF (b : Bool) : List (List Int) := if b then [[1, 0], [1, 0]] else [[0, 1], [0, 1]]
theorem autF_end (b : Bool) : (autF b 2).2 = (nextF b, [[], [0]]) := by revert b; decide
theorem autF_at (b : Bool) {i : Nat} (hi : i ≤ 2) : (autF b i).1.length ≤ 2 ∧ (i < (autF b i).1.length ↔ i < 2) ∧ (autF b i).2.1.length = i ∧ (autF b i).2.2.length = i ∧ ∀ c, c ≤ 2 → i < 2 → (autR b (autF b i).1 c).1.length ≤ 2 ∧ i < (autR b (autF b i).1 c).1.length ∧ rowBl (autR b (autF b i).1 c).1 i = fl b (decide (i = 1)) ∧ (autR b (autF b i).1 c).2.length = c := by
  have h : ∀ b ∈ [false, true], ∀ i ∈ List.range 3, (autF b i).1.length ≤ 2 ∧ (i < (autF b i).1.length ↔ i < 2) ∧ (autF b i).2.1.length = i ∧ (autF b i).2.2.length = i ∧ ∀ c ∈ List.range 3, i < 2 → (autR b (autF b i).1 c).1.length ≤ 2 ∧ i < (autR b (autF b i).1 c).1.length ∧ rowBl (autR b (autF b i).1 c).1 i = fl b (decide (i = 1)) ∧ (autR b (autF b i).1 c).2.length = c := by decide
  obtain ⟨h1, h2, h3, h4, h5⟩ := h b (by cases b <;> simp) i (by simp; omega)
  exact ⟨h1, h2, h3, h4, fun c hc hi2 => h5 c (by simp; omega) hi2⟩
def nxM : List (List Int) := [[1, 2], [1, 1], [2, 2]]
/-- what the entry at (s, c) of the machine's rows is -/
def AutOut (b : Bool) (w : World) (e : Ending) (w' : World) : Prop :=
  ∃ (R : Nat) (nv mv : Value), e = .returned (.tuple #[.agg #[nv, mv], .bool true]) ∧ Hid (OwnR R w' w.heap.size nv (nextF b)) ∧ Hid (OwnR R w' w.heap.size mv [[], [0]]) ∧ Hid (Below w.heap.size w w')
theorem makeB3 (w : World) : (Instr.makeSlice 65 (.int .i64 3) (.int .i64 3)).run Tryd.prog w = .ok (.slice (some ⟨w.heap.size, 0, none⟩) 3 3) (w.alloc (.cells #[.bool false, .bool false, .bool false] 4)) := by
  obtain ⟨i0, hi, hz0, hz1, hz2⟩ := info_parts infoBool
  have := run_make (P := Tryd.prog) w 65 4 i0 _ Tryd.underlying65 hi hz0 .i64 .i64 3 3 (by omega) (by omega) (by rw [hz2]; omega) (by omega)
  rw [hz1] at this
  rw [this, show (Value.bool false).cells = #[.bool false] from rfl, made_rep]
  rfl

theorem aut_start (w : World) :
    (fun W : World => W.heap.size = w.heap.size + 4 ∧ Below w.heap.size w W ∧ AutS w.heap.size W.heap.size W.heap.size W ⟨w.heap.size + 1 + 1, w.heap.size + 1, w.heap.size + 1 + 1 + 1, w.heap.size, w.heap.size⟩ 0 (fun _ => none) [] [] [] (.slice none 0 0) (.slice none 0 0) (.slice none 0 0))
    ((((w.alloc (.cells #[.slice none 0 0, .slice none 0 0] 26)).alloc (.map #[] 0)).alloc (.cells #[.map (some (w.heap.size + 1))] 97)).alloc (.cells #[.slice none 0 0] 103)) := by
  have key : ∀ (W : World) (o : Obj), (W.alloc o).heap.size = W.heap.size + 1 := fun W o => by simp
  have old : ∀ (W : World) (o : Obj) (b : Nat) (x : Obj), W.heap[b]? = some x → (W.alloc o).heap[b]? = some x := fun W o b x h => (heap_alloc_old W o (Array.getElem?_eq_some_iff.1 h).1).trans h
  have new : ∀ (W : World) (o : Obj) (b : Nat), W.heap.size = b → (W.alloc o).heap[b]? = some o := fun W o b h => by rw [← h]; exact heap_alloc_new W o
  have bel : ∀ (W : World) (o : Obj), Below w.heap.size w W → Below w.heap.size w (W.alloc o) := fun W o h => bUp h (bBox _ _)
  refine ⟨?_, ?_, ?_, ?_, ?_, ?_, ?_, OwnV.nil _ _, OwnR.nil _ _, OwnR.nil _ _, (fun g e => by cases e), ?_, ?_, Nat.le_refl _, ?_⟩
  · simp only [key]
  · exact bel _ _ (bel _ _ (bel _ _ (bBox _ _)))
  · exact old _ _ _ _ (new _ _ _ (by simp only [key]))
  · exact new _ _ _ (by simp only [key])
  · exact old _ _ _ _ (old _ _ _ _ (old _ _ _ _ (new _ _ _ rfl)))
  · exact fun h => absurd rfl h
  · exact ints_empty (old _ _ _ _ (old _ _ _ _ (new _ _ _ (by simp only [key]))))
  · show w.heap.size ≤ w.heap.size + 1
    omega
  · show w.heap.size ≤ w.heap.size + 1 + 1 + 1
    omega
  · simp only [key]
    omega
theorem keyB_nil : KeyB (fun _ => none) [] := fun s => by simp
theorem ArrB.set {w : World} {g : Nat} {zs : List Bool} (h : ArrB w g zs) (k : Nat) (x : Bool) : ArrB (w.setCell ⟨g, k, none⟩ (.bool x)) g (zs.set k x) := by
  unfold ArrB Blk at h ⊢
  simp only [World.setCell, Array.getElem?_modify, h, Option.map_some]
  congr 2
  simp [List.map_set]
theorem AutS.flag {B Ri Rb : Nat} {w : World} {a : AutA} {cnt : Nat} {f : List UInt8 → Option Int} {ss : List (List Bool)} {nx mk : List (List Int)} {bs n cs : Nat} {nv mv : Value} (h : AutS B Ri Rb w a cnt f ss nx mk (.slice (some ⟨bs, 0, none⟩) n cs) nv mv) {m : Nat} (hm : m < ss.length) {b x : Bool} (hx : rowBl ss m = fl b x) :
    w.cell? ⟨a.bS, 0, none⟩ = some (.slice (some ⟨bs, 0, none⟩) n cs) ∧ ∃ bv ov cv, bv ≠ Rb ∧ w.cell? ⟨bs, m, none⟩ = some (.slice (some ⟨bv, ov, none⟩) 3 cv) ∧ w.cell? ⟨bv, ov, none⟩ = some (.bool x) ∧ w.cell? ⟨bv, ov + 1, none⟩ = some (.bool b) ∧ w.cell? ⟨bv, ov + 2, none⟩ = some (.bool (!b)) := by
  refine ⟨h.sets.cell 0, ?_⟩
  obtain ⟨bs', v, e, _, hc, hI⟩ := h.srow.at_ hm
  injection e with e
  injection e with e
  subst e
  rw [hx] at hI
  obtain ⟨A, cv, rfl⟩ := hI.form
  obtain ⟨b0, o0, rfl, hn, _, h0⟩ := hI.at_ (k := 0) (by simp [fl])
  obtain ⟨b1, o1, e1, _, _, h1⟩ := hI.at_ (k := 1) (by simp [fl])
  obtain ⟨b2, o2, e2, _, _, h2⟩ := hI.at_ (k := 2) (by simp [fl])
  injection e1 with e1
  injection e1 with e1 e1'
  injection e2 with e2
  injection e2 with e2 e2'
  subst e1 e1' e2 e2'
  exact ⟨b0, o0, cv, hn, hc, h0, h1, h2⟩
theorem AutS.next2 {B Ri Rb : Nat} {w w' : World} {a : AutA} {cnt : Nat} {f : List UInt8 → Option Int} {ss : List (List Bool)} {nx mk nx' : List (List Int)} {sv nv mv nv' s : Value} (h : AutS B Ri Rb w a cnt f ss nx mk sv nv mv) (hg : (w.alloc (.cells #[s] 23)).grownBy w' nv.ownBlock) (ho : OwnR w.heap.size w' B nv' nx') (hloc : nv'.ownBlock = nv.ownBlock ∨ ∃ g, nv'.ownBlock = some g ∧ (w.alloc (.cells #[s] 23)).heap.size ≤ g) :
    AutS B w.heap.size Rb (w'.setCell ⟨a.bA, 0, none⟩ nv') a cnt f ss nx' mk sv nv' mv ∧ w'.cell? ⟨a.bA, 0, none⟩ = some nv ∧ w'.frozen? ⟨a.bA, 0, none⟩ = false ∧ (∀ R u zs, IsI R w u zs → IsI R (w'.setCell ⟨a.bA, 0, none⟩ nv') u zs) ∧ (∀ w0, Below B w0 w → Below B w0 (w'.setCell ⟨a.bA, 0, none⟩ nv')) := by
  have hb := bBox w (.cells #[s] 23)
  have h2 := (h.otherI (Nat.le_refl _)).keep hb
  have hr : ∀ g, nv.ownBlock = some g → ∃ cs, (w.alloc (.cells #[s] 23)).heap[g]? = some (.cells cs 23 (0, 0)) := fun g e => (h2.nrow.typed g e).2
  have hA := h2.auto.away hg (Away.of_row hr (by decide))
  refine ⟨h2.nexted hg ho hloc, hA.cell 0, hA.frozen 0, fun R u zs hI => ?_, fun w0 h0 => ?_⟩
  · exact ((hI.keep hb).away hg (.inr (Away.of_row hr (by decide)))).away (grown_set w' ⟨a.bA, 0, none⟩ _) (.inr (Away.of_cells hA (t := 3) (by decide)))
  · have j2 := (h0.alloc h.lB (.cells #[s] 23)).grown hg h2.lB (fun k hk => (h2.nrow.typed k hk).1)
    exact j2.setCell (p := ⟨a.bA, 0, none⟩) h.lA _
theorem AutS.mark2 {B Ri Rb : Nat} {w w' : World} {a : AutA} {cnt : Nat} {f : List UInt8 → Option Int} {ss : List (List Bool)} {nx mk mk' : List (List Int)} {sv nv mv mv' s : Value} (h : AutS B Ri Rb w a cnt f ss nx mk sv nv mv) (hg : (w.alloc (.cells #[s] 23)).grownBy w' mv.ownBlock) (ho : OwnR w.heap.size w' B mv' mk') (hloc : mv'.ownBlock = mv.ownBlock ∨ ∃ g, mv'.ownBlock = some g ∧ (w.alloc (.cells #[s] 23)).heap.size ≤ g) :
    AutS B w.heap.size Rb (w'.setCell ⟨a.bA, 1, none⟩ mv') a cnt f ss nx mk' sv nv mv' ∧ w'.cell? ⟨a.bA, 1, none⟩ = some mv ∧ w'.frozen? ⟨a.bA, 1, none⟩ = false ∧ (∀ R u zs, IsI R w u zs → IsI R (w'.setCell ⟨a.bA, 1, none⟩ mv') u zs) ∧ (∀ w0, Below B w0 w → Below B w0 (w'.setCell ⟨a.bA, 1, none⟩ mv')) := by
  have hb := bBox w (.cells #[s] 23)
  have h2 := (h.otherI (Nat.le_refl _)).keep hb
  have hr : ∀ g, mv.ownBlock = some g → ∃ cs, (w.alloc (.cells #[s] 23)).heap[g]? = some (.cells cs 23 (0, 0)) := fun g e => (h2.mrow.typed g e).2
  have hA := h2.auto.away hg (Away.of_row hr (by decide))
  refine ⟨h2.marked hg ho hloc, hA.cell 1, hA.frozen 1, fun R u zs hI => ?_, fun w0 h0 => ?_⟩
  · exact ((hI.keep hb).away hg (.inr (Away.of_row hr (by decide)))).away (grown_set w' ⟨a.bA, 1, none⟩ _) (.inr (Away.of_cells hA (t := 3) (by decide)))
  · have j2 := (h0.alloc h.lB (.cells #[s] 23)).grown hg h2.lB (fun k hk => (h2.mrow.typed k hk).1)
    exact j2.setCell (p := ⟨a.bA, 1, none⟩) h.lA _
/-- the entries of the machine's rows -/
theorem nx_at {R B : Nat} {w : World} {A : Option Addr} {n c : Nat} (h : OwnR R w B (.slice A n c) nxM) : ∃ bn, A = some ⟨bn, 0, none⟩ ∧ ∀ s, s < 3 → ∃ r o k, w.cell? ⟨bn, s, none⟩ = some (.slice (some ⟨r, o, none⟩) 2 k) ∧ ∀ c, c < 2 → w.cell? ⟨r, o + c, none⟩ = some (.int .i64 (nth (rowAt nxM s) c)) := by
  obtain ⟨bn, _, hA, _⟩ := h.at_ (k := 0) (by decide)
  refine ⟨bn, hA, fun s hs => ?_⟩
  have hl : (rowAt nxM s).length = 2 := by
    match s, hs with
    | 0, _ => rfl
    | 1, _ => rfl
    | 2, _ => rfl
  obtain ⟨bn', v, hA', _, hc, Av, cv, rfl, hI, _⟩ := h.at_ (k := s) hs
  rw [hA] at hA'
  injection hA' with hA'
  injection hA' with hA'
  subst hA'
  obtain ⟨r, o, rfl, -, hr⟩ := hI.ints (by rw [hl]; decide)
  rw [hl] at hc hr
  exact ⟨r, o, cv, hc, fun c hc => hr c hc⟩

set_option maxHeartbeats 64000000 in
set_option maxRecDepth 100000 in
theorem automaton (M : Nat) (e : Int) (bk b : Bool) (nv hv rv : Value) (R0 R1 R2 B0 : Nat) (w : World) (hM : Blk w M #[.int .i64 2, .int .i64 e, .bool bk, nv, hv, rv] 67)
    (hN : OwnR R0 w B0 nv nxM) (hH : IsB R2 w hv (fl b false)) (hR : IsI R1 w rv [0]) :
    Calls Tryd.prog 43 #[.pointer (some ⟨M, 0, none⟩)] w (AutOut b w) := by
  have hmm := @run_makeMap Tryd.prog
  have hmf : ∀ (fn : Fn) (first cap : Array Value) (w : World), (Instr.makeFunc fn first cap).run Tryd.prog w = .ok (.func fn first cap) w := fun _ _ _ _ => rfl
  have m0 : w.cell? ⟨M, 0, none⟩ = some (.int .i64 2) := hM.cell 0
  have m3 : w.cell? ⟨M, 3, none⟩ = some nv := hM.cell 3
  have m4 : w.cell? ⟨M, 4, none⟩ = some hv := hM.cell 4
  have m5 : w.cell? ⟨M, 5, none⟩ = some rv := hM.cell 5
  have hl := hM.lt
  obtain ⟨An, cn, hnv, -, -⟩ := hN.form
  have hnv : nv = .slice An 3 cn := hnv
  subst hnv
  obtain ⟨bn, rfl, hRow⟩ := nx_at hN
  obtain ⟨Ar, cr, hrv, hIr, -, -⟩ := hR
  have hrv : rv = .slice Ar 1 cr := hrv
  subst hrv
  obtain ⟨br, or, rfl, hbr0, hcr⟩ := hIr.ints.at_ (k := 0) (by decide)
  have hcr : w.cell? ⟨br, or, none⟩ = some (.int .i64 0) := hcr
  have HRow := Lib.hid hRow
  have hl1 : M < w.heap.size + 1 := by omega
  have hl2 : M < w.heap.size + 1 + 1 := by omega
  have hl3 : M < w.heap.size + 1 + 1 + 1 := by omega
  have HHr := Lib.hid hH
  clear hM hN hH hRow hIr
  go_enter Tryd.func43, Tryd.ntmps43
  go_wp2_with fail
  obtain ⟨hsz, hbW, hS⟩ := aut_start w
  generalize (((w.alloc (.cells #[.slice none 0 0, .slice none 0 0] 26)).alloc (.map #[] 0)).alloc (.cells #[.map (some (w.heap.size + 1))] 97)).alloc (.cells #[.slice none 0 0] 103) = W at hsz hbW hS ⊢
  have HF := Lib.hid (flagNum _ _ _ _ _ _ _ _ _ _ _ false b (!b) hv W hS keyB_nil ((HHr.out.keep hbW).other (Nat.le_refl _)) (by decide))
  refine HF.out.mono ?_
  rintro e1 w1 ⟨f1, sv1, rfl, h1, h2, h3, -⟩
  have hB1 : Below w.heap.size w w1 := h3.out w hbW
  have HA := Lib.hid (AutS.start h1.out rfl)
  have HB := Lib.hid (bUp hB1 (bBox w1 (.cells #[.slice none 0 0, .slice none 0 0] 26)))
  have hne : w1.heap.size ≠ w.heap.size := by
    have : w.heap.size < w1.heap.size := h1.out.auto.lt
    omega
  clear h1 h3 HF hsz hbW hS hmm hmf hl1 hl2 hl3
  dsimp only at HA
  go_wp2_with fail
  generalize w.heap.size + 1 + 1 + 1 = bS at HA ⊢
  generalize w.heap.size + 1 + 1 = bN at HA ⊢
  generalize w.heap.size + 1 = bM at HA ⊢
  generalize w1.heap.size = bA at HA hne ⊢
  generalize w1.alloc (.cells #[.slice none 0 0, .slice none 0 0] 26) = w2 at HA HB ⊢
  have hmk : ∀ w, (Instr.makeSlice 23 (.int .i64 2) (.int .i64 2)).run Tryd.prog w = .ok (.slice (some ⟨w.heap.size, 0, none⟩) 2 2) (w.alloc (.cells (intVals [0, 0]).toArray 3)) := fun w => makeI 2 (by decide) w
  have hm3 := makeB3
  have M0 := Lib.hid m0
  have M3 := Lib.hid m3
  have M4 := Lib.hid m4
  have M5 := Lib.hid m5
  have Hcr := Lib.hid hcr
  have Hmk := Lib.hid hmk
  have Hm3 := Lib.hid hm3
  clear m0 m3 m4 m5 hcr hmk hm3
  go_loopw [8] (fun i wr => ∃ (m Ri Rb : Nat) (f : List UInt8 → Option Int) (sv nv' mv' : Value), m ≤ 2 ∧ i = .int .i64 m ∧ Hid (AutS w.heap.size Ri Rb wr ⟨bN, bM, bS, bA, w.heap.size⟩ (autF b m).1.length f (autF b m).1 (autF b m).2.1 (autF b m).2.2 sv nv' mv') ∧ Hid (KeyB f (autF b m).1) ∧ Hid (Below w.heap.size w wr)) (fun i _ => 2 - (intOf i).toNat)
  case atStart => exact ⟨0, _, _, f1, sv1, _, _, by decide, rfl, HA, h2, HB⟩
  case round =>
    clear HA h2 HB hB1
    obtain ⟨m, Ri0, Rb0, f, sv, nv', mv', hm, rfl, HS, HK, hbr⟩ := hrel
    obtain ⟨hl1, hl2, hl3, hl4, hl5⟩ := autF_at b hm
    obtain ⟨As, cs, rfl, -, -⟩ := HS.out.srow.form
    have z0 : wr.cell? ⟨bS, 0, none⟩ = some (.slice As (autF b m).1.length cs) := HS.out.sets.cell 0
    by_cases hlt : m < 2
    · have hmi : (m : Int) < (autF b m).1.length := by have := hl2.2 hlt; omega
      have HL := Lib.hid (fun c hc => hl5 c hc hlt)
      have HNext := Lib.hid (show autF b (m + 1) = ((autR b (autF b m).1 2).1, (autF b m).2.1 ++ [(autR b (autF b m).1 2).2], (autF b m).2.2 ++ [if (rowBl (autF b m).1 m).getD 0 false then [0] else []]) from rfl)
      clear hl5 hl2
      generalize (autF b m).1 = ss at *
      generalize (autF b m).2.1 = nx at *
      generalize (autF b m).2.2 = mk at *
      have HX : Hid (rowBl ss m = fl b (decide (m = 1))) := Lib.hid ((HL.out 0 (by decide)).2.2.1)
      have m0 := cell_keep hbr.out M0.out
      have hlM : M < wr.heap.size := Nat.lt_of_lt_of_le hl hbr.out.size
      have hmk := Hmk.out
      go_wp2_with fail
      have HS1 := Lib.hid ((HS.out.otherI (Nat.le_refl _)).keep (bBox wr (.cells (intVals [0, 0]).toArray 3)))
      have HA1 : Hid (Arr (wr.alloc (.cells (intVals [0, 0]).toArray 3)) wr.heap.size [0, 0]) := Lib.hid (Blk.new _ _ _)
      have hb1 := Lib.hid (bUp hbr.out (bBox wr (.cells (intVals [0, 0]).toArray 3)))
      have hBR : w.heap.size ≤ wr.heap.size := hbr.out.size
      generalize wr.alloc (.cells (intVals [0, 0]).toArray 3) = w3 at HS1 HA1 hb1 ⊢
      generalize wr.heap.size = Ri at HS1 HA1 hBR ⊢
      clear z0 m0 hlM hmk HS hbr hmi
      go_loopw [40] (fun j wq => ∃ (c Rb : Nat) (f : List UInt8 → Option Int) (sv : Value), c ≤ 2 ∧ j = .int .i64 c ∧ Hid (AutS w.heap.size Ri Rb wq ⟨bN, bM, bS, bA, w.heap.size⟩ (autR b ss c).1.length f (autR b ss c).1 nx mk sv nv' mv') ∧ Hid (KeyB f (autR b ss c).1) ∧ Hid (Arr wq Ri ((autR b ss c).2 ++ List.replicate (2 - c) 0)) ∧ Hid (Below w.heap.size w wq)) (fun j _ => 2 - (intOf j).toNat)
      case atStart => exact ⟨0, _, f, _, by decide, rfl, HS1, HK, HA1, hb1⟩
      case round =>
        clear HS1 HA1 hb1 HK
        obtain ⟨c, Rb1, fq, svq, hc, rfl, HSc, HKc, HAc, hbq⟩ := hrel
        obtain ⟨q1, q2, q3, q4⟩ := HL.out c hc
        obtain ⟨As2, cs2, rfl, -, -⟩ := HSc.out.srow.form
        obtain ⟨bs, _, rfl, -⟩ := HSc.out.srow.at_ q2
        by_cases hc2 : c < 2
        · have hci : (c : Int) < 2 := by omega
          have HStep := Lib.hid (show autR b ss (c + 1) = (numB (autR b ss c).1 (fl b (if c = 0 then b else !b)), (autR b ss c).2 ++ [(idxB (autR b ss c).1 (fl b (if c = 0 then b else !b)) : Int)]) from rfl)
          generalize (autR b ss c).1 = sc at *
          generalize (autR b ss c).2 = rc at *
          have m3 := cell_keep hbq.out M3.out
          have hlM : M < wr.heap.size := Nat.lt_of_lt_of_le hl hbq.out.size
          have hm3 := Hm3.out
          have hmi : (m : Int) < sc.length := by omega
          have Q3 := Lib.hid q3
          have Q4 := Lib.hid q4
          have Q1 := Lib.hid q1
          clear q3 q4 q1
          go_wp2_with fail
          have HS2 := Lib.hid ((HSc.out.otherB (Nat.le_refl _)).keep (bBox wr (.cells #[.bool false, .bool false, .bool false] 4)))
          have HA2 := Lib.hid (HAc.out.keep (bBox wr (.cells #[.bool false, .bool false, .bool false] 4)))
          have HAB : Hid (ArrB (wr.alloc (.cells #[.bool false, .bool false, .bool false] 4)) wr.heap.size [false, false, false]) := Lib.hid (Blk.new _ _ _)
          have hb2 := Lib.hid (bUp hbq.out (bBox wr (.cells #[.bool false, .bool false, .bool false] 4)))
          have hBb : w.heap.size ≤ wr.heap.size := hbq.out.size
          generalize wr.alloc (.cells #[.bool false, .bool false, .bool false] 4) = wq at HS2 HA2 HAB hb2 ⊢
          generalize wr.heap.size = Rb at HS2 HAB hBb ⊢
          clear m3 hlM hm3 HSc HAc hbq
          refine wp_loop_rounds 4 ?_
          obtain rfl | rfl : c = 0 ∨ c = 1 := by omega
          · skip
            obtain ⟨r0, o0, k0, hq, hp⟩ := HRow.out 0 (by decide)
            replace hq := cell_keep hb2.out hq
            replace hp : wq.cell? ⟨r0, o0, none⟩ = some (.int .i64 1) := cell_keep hb2.out (hp 0 (by decide))
            obtain ⟨z0, bv, ov, cv, zn, z1, z2, z3, z4⟩ := HS2.out.flag q2 Q3.out
            have co : wq.cell? ⟨Rb, 0, none⟩ = some (.bool false) := HAB.out.cell 0
            have hf : wq.frozen? ⟨Rb, 0, none⟩ = false := HAB.out.frozen 0
            rw [rounds_succ]
            go_wp2_with fail
            go_region
            clear hq hp z0 z1 z2 z3 z4 co hf
            go_wp2_with fail
            have HAr := Lib.hid (Away.of_cells HAB.out (t := 3) (by decide))
            replace HS2 := Lib.hid ((HS2.out.rowedB HAB.out 0 (.bool b)).keep (Below.refl _ _).drew)
            replace HA2 := Lib.hid ((Blk.away HA2.out (grown_set wq ⟨Rb, 0, none⟩ (.bool b)) HAr.out).keep (Below.refl _ _).drew)
            replace HAB : Hid (ArrB (wq.setCell ⟨Rb, 0, none⟩ (.bool b)).drew Rb [b, false, false]) := Lib.hid (HAB.out.set 0 b)
            replace hb2 := Lib.hid (hb2.out.setCell (p := ⟨Rb, 0, none⟩) hBb (.bool b)).drew
            generalize (wq.setCell ⟨Rb, 0, none⟩ (.bool b)).drew = wq1 at HS2 HA2 HAB hb2 ⊢
            clear HAr
            obtain ⟨r1, o1, k1, hq, hp⟩ := HRow.out 1 (by decide)
            replace hq := cell_keep hb2.out hq
            replace hp : wq1.cell? ⟨r1, o1, none⟩ = some (.int .i64 1) := cell_keep hb2.out (hp 0 (by decide))
            obtain ⟨z0, bv, ov, cv, zn, z1, z2, z3, z4⟩ := HS2.out.flag q2 Q3.out
            have co : wq1.cell? ⟨Rb, 1, none⟩ = some (.bool false) := HAB.out.cell 1
            have hf : wq1.frozen? ⟨Rb, 1, none⟩ = false := HAB.out.frozen 1
            rw [rounds_succ]
            go_wp2_with fail
            go_region
            clear hq hp z0 z1 z2 z3 z4 co hf
            go_wp2_with fail
            have HAr := Lib.hid (Away.of_cells HAB.out (t := 3) (by decide))
            replace HS2 := Lib.hid ((HS2.out.rowedB HAB.out 1 (.bool b)).keep (Below.refl _ _).drew)
            replace HA2 := Lib.hid ((Blk.away HA2.out (grown_set wq1 ⟨Rb, 1, none⟩ (.bool b)) HAr.out).keep (Below.refl _ _).drew)
            replace HAB : Hid (ArrB (wq1.setCell ⟨Rb, 1, none⟩ (.bool b)).drew Rb [b, b, false]) := Lib.hid (HAB.out.set 1 b)
            replace hb2 := Lib.hid (hb2.out.setCell (p := ⟨Rb, 1, none⟩) hBb (.bool b)).drew
            generalize (wq1.setCell ⟨Rb, 1, none⟩ (.bool b)).drew = wq2 at HS2 HA2 HAB hb2 ⊢
            clear HAr
            obtain ⟨r2, o2, k2, hq, hp⟩ := HRow.out 2 (by decide)
            replace hq := cell_keep hb2.out hq
            replace hp : wq2.cell? ⟨r2, o2, none⟩ = some (.int .i64 2) := cell_keep hb2.out (hp 0 (by decide))
            obtain ⟨z0, bv, ov, cv, zn, z1, z2, z3, z4⟩ := HS2.out.flag q2 Q3.out
            have co : wq2.cell? ⟨Rb, 2, none⟩ = some (.bool false) := HAB.out.cell 2
            have hf : wq2.frozen? ⟨Rb, 2, none⟩ = false := HAB.out.frozen 2
            rw [rounds_succ]
            go_wp2_with fail
            go_region
            clear hq hp z0 z1 z2 z3 z4 co hf
            go_wp2_with fail
            have HAr := Lib.hid (Away.of_cells HAB.out (t := 3) (by decide))
            replace HS2 := Lib.hid ((HS2.out.rowedB HAB.out 2 (.bool (!b))).keep (Below.refl _ _).drew)
            replace HA2 := Lib.hid ((Blk.away HA2.out (grown_set wq2 ⟨Rb, 2, none⟩ (.bool (!b))) HAr.out).keep (Below.refl _ _).drew)
            replace HAB : Hid (ArrB (wq2.setCell ⟨Rb, 2, none⟩ (.bool (!b))).drew Rb [b, b, (!b)]) := Lib.hid (HAB.out.set 2 (!b))
            replace hb2 := Lib.hid (hb2.out.setCell (p := ⟨Rb, 2, none⟩) hBb (.bool (!b))).drew
            generalize (wq2.setCell ⟨Rb, 2, none⟩ (.bool (!b))).drew = wq3 at HS2 HA2 HAB hb2 ⊢
            clear HAr
            rw [rounds_succ]
            go_wp2_with fail
            have HV : Hid (IsB wq3.heap.size wq3 (.slice (some ⟨Rb, 0, none⟩) 3 3) [b, b, (!b)]) := Lib.hid (HAB.out.isB (by have := HAB.out.lt; omega))
            have HNum := Lib.hid (flagNum _ _ _ _ _ _ _ _ _ _ _ _ _ _ _ _ (HS2.out.otherB (Nat.le_refl _)) HKc.out HV.out (by have := Q1.out; omega))
            refine HNum.out.mono ?_
            rintro e6 w6 ⟨f6, sv6, rfl, HS6, HK6, HB6, HI6⟩
            replace HStep : Hid (autR b ss (0 + 1) = (numB sc [b, b, (!b)], rc ++ [(idxB sc [b, b, (!b)] : Int)])) := Lib.hid HStep.out
            have hn6 : (numB sc [b, b, (!b)]).length ≤ 2 := by
              have := (HL.out (0 + 1) (by decide)).1
              rw [HStep.out] at this
              exact this
            have HA6 : Hid (Arr w6 Ri (rc ++ List.replicate (2 - 0) 0)) := Lib.hid (HI6.out _ _ HA2.out)
            have hlen : 0 < (rc ++ List.replicate (2 - 0) 0).length := by have := Q4.out; simp only [List.length_append, List.length_replicate]; omega
            have co := HA6.out.get hlen
            have hf : w6.frozen? ⟨Ri, 0, none⟩ = false := HA6.out.frozen _
            have hb6 := Lib.hid (HB6.out w hb2.out)
            obtain ⟨As6, cs6, rfl, -, -⟩ := HS6.out.srow.form
            have HS7 := Lib.hid (HS6.out.rowedI HA6.out 0 (.int .i64 (idxB sc [b, b, (!b)] : Int)))
            clear HNum HV HB6 HI6 HS2 HA2 HAB hb2 HKc
            generalize hsn : numB sc [b, b, (!b)] = sn at *
            generalize hix : idxB sc [b, b, (!b)] = ix at *
            generalize nth (rc ++ List.replicate (2 - 0) 0) 0 = old at co
            have Hsn := Lib.hid hsn
            have Hix := Lib.hid hix
            clear hsn hix
            go_upto_region 20 with fail
            have HA7 := Lib.hid (HA6.out.set 0 (ix : Int))
            have hb7 := Lib.hid (hb6.out.setCell (p := ⟨Ri, 0, none⟩) hBR (.int .i64 (ix : Int)))
            generalize w6.setCell ⟨Ri, 0, none⟩ (.int .i64 (ix : Int)) = w7 at HS7 HA7 hb7 ⊢
            clear co hf HS6 HA6 hb6 hlen
            have z0 : w7.cell? ⟨bS, 0, none⟩ = some (.slice As6 sn.length cs6) := HS7.out.sets.cell 0
            have hgt : ¬ (400 : Int) < sn.length := by omega
            go_wp2_with fail
            go_roundw
            case rel => exact ⟨0 + 1, _, f6, _, by decide, by first | rfl | go_num, by rw [HStep.out]; exact HS7, by rw [HStep.out]; exact HK6, by rw [HStep.out, ← row_set Q4.out (by decide)]; exact HA7, hb7⟩
            case measure => simp [intOf]
          · skip
            obtain ⟨r0, o0, k0, hq, hp⟩ := HRow.out 0 (by decide)
            replace hq := cell_keep hb2.out hq
            replace hp : wq.cell? ⟨r0, o0 + 1, none⟩ = some (.int .i64 2) := cell_keep hb2.out (hp 1 (by decide))
            obtain ⟨z0, bv, ov, cv, zn, z1, z2, z3, z4⟩ := HS2.out.flag q2 Q3.out
            have co : wq.cell? ⟨Rb, 0, none⟩ = some (.bool false) := HAB.out.cell 0
            have hf : wq.frozen? ⟨Rb, 0, none⟩ = false := HAB.out.frozen 0
            rw [rounds_succ]
            go_wp2_with fail
            go_region
            clear hq hp z0 z1 z2 z3 z4 co hf
            go_wp2_with fail
            have HAr := Lib.hid (Away.of_cells HAB.out (t := 3) (by decide))
            replace HS2 := Lib.hid ((HS2.out.rowedB HAB.out 0 (.bool (!b))).keep (Below.refl _ _).drew)
            replace HA2 := Lib.hid ((Blk.away HA2.out (grown_set wq ⟨Rb, 0, none⟩ (.bool (!b))) HAr.out).keep (Below.refl _ _).drew)
            replace HAB : Hid (ArrB (wq.setCell ⟨Rb, 0, none⟩ (.bool (!b))).drew Rb [(!b), false, false]) := Lib.hid (HAB.out.set 0 (!b))
            replace hb2 := Lib.hid (hb2.out.setCell (p := ⟨Rb, 0, none⟩) hBb (.bool (!b))).drew
            generalize (wq.setCell ⟨Rb, 0, none⟩ (.bool (!b))).drew = wq1 at HS2 HA2 HAB hb2 ⊢
            clear HAr
            obtain ⟨r1, o1, k1, hq, hp⟩ := HRow.out 1 (by decide)
            replace hq := cell_keep hb2.out hq
            replace hp : wq1.cell? ⟨r1, o1 + 1, none⟩ = some (.int .i64 1) := cell_keep hb2.out (hp 1 (by decide))
            obtain ⟨z0, bv, ov, cv, zn, z1, z2, z3, z4⟩ := HS2.out.flag q2 Q3.out
            have co : wq1.cell? ⟨Rb, 1, none⟩ = some (.bool false) := HAB.out.cell 1
            have hf : wq1.frozen? ⟨Rb, 1, none⟩ = false := HAB.out.frozen 1
            rw [rounds_succ]
            go_wp2_with fail
            go_region
            clear hq hp z0 z1 z2 z3 z4 co hf
            go_wp2_with fail
            have HAr := Lib.hid (Away.of_cells HAB.out (t := 3) (by decide))
            replace HS2 := Lib.hid ((HS2.out.rowedB HAB.out 1 (.bool b)).keep (Below.refl _ _).drew)
            replace HA2 := Lib.hid ((Blk.away HA2.out (grown_set wq1 ⟨Rb, 1, none⟩ (.bool b)) HAr.out).keep (Below.refl _ _).drew)
            replace HAB : Hid (ArrB (wq1.setCell ⟨Rb, 1, none⟩ (.bool b)).drew Rb [(!b), b, false]) := Lib.hid (HAB.out.set 1 b)
            replace hb2 := Lib.hid (hb2.out.setCell (p := ⟨Rb, 1, none⟩) hBb (.bool b)).drew
            generalize (wq1.setCell ⟨Rb, 1, none⟩ (.bool b)).drew = wq2 at HS2 HA2 HAB hb2 ⊢
            clear HAr
            obtain ⟨r2, o2, k2, hq, hp⟩ := HRow.out 2 (by decide)
            replace hq := cell_keep hb2.out hq
            replace hp : wq2.cell? ⟨r2, o2 + 1, none⟩ = some (.int .i64 2) := cell_keep hb2.out (hp 1 (by decide))
            obtain ⟨z0, bv, ov, cv, zn, z1, z2, z3, z4⟩ := HS2.out.flag q2 Q3.out
            have co : wq2.cell? ⟨Rb, 2, none⟩ = some (.bool false) := HAB.out.cell 2
            have hf : wq2.frozen? ⟨Rb, 2, none⟩ = false := HAB.out.frozen 2
            rw [rounds_succ]
            go_wp2_with fail
            go_region
            clear hq hp z0 z1 z2 z3 z4 co hf
            go_wp2_with fail
            have HAr := Lib.hid (Away.of_cells HAB.out (t := 3) (by decide))
            replace HS2 := Lib.hid ((HS2.out.rowedB HAB.out 2 (.bool (!b))).keep (Below.refl _ _).drew)
            replace HA2 := Lib.hid ((Blk.away HA2.out (grown_set wq2 ⟨Rb, 2, none⟩ (.bool (!b))) HAr.out).keep (Below.refl _ _).drew)
            replace HAB : Hid (ArrB (wq2.setCell ⟨Rb, 2, none⟩ (.bool (!b))).drew Rb [(!b), b, (!b)]) := Lib.hid (HAB.out.set 2 (!b))
            replace hb2 := Lib.hid (hb2.out.setCell (p := ⟨Rb, 2, none⟩) hBb (.bool (!b))).drew
            generalize (wq2.setCell ⟨Rb, 2, none⟩ (.bool (!b))).drew = wq3 at HS2 HA2 HAB hb2 ⊢
            clear HAr
            rw [rounds_succ]
            go_wp2_with fail
            have HV : Hid (IsB wq3.heap.size wq3 (.slice (some ⟨Rb, 0, none⟩) 3 3) [(!b), b, (!b)]) := Lib.hid (HAB.out.isB (by have := HAB.out.lt; omega))
            have HNum := Lib.hid (flagNum _ _ _ _ _ _ _ _ _ _ _ _ _ _ _ _ (HS2.out.otherB (Nat.le_refl _)) HKc.out HV.out (by have := Q1.out; omega))
            refine HNum.out.mono ?_
            rintro e6 w6 ⟨f6, sv6, rfl, HS6, HK6, HB6, HI6⟩
            replace HStep : Hid (autR b ss (1 + 1) = (numB sc [(!b), b, (!b)], rc ++ [(idxB sc [(!b), b, (!b)] : Int)])) := Lib.hid HStep.out
            have hn6 : (numB sc [(!b), b, (!b)]).length ≤ 2 := by
              have := (HL.out (1 + 1) (by decide)).1
              rw [HStep.out] at this
              exact this
            have HA6 : Hid (Arr w6 Ri (rc ++ List.replicate (2 - 1) 0)) := Lib.hid (HI6.out _ _ HA2.out)
            have hlen : 1 < (rc ++ List.replicate (2 - 1) 0).length := by have := Q4.out; simp only [List.length_append, List.length_replicate]; omega
            have co := HA6.out.get hlen
            have hf : w6.frozen? ⟨Ri, 1, none⟩ = false := HA6.out.frozen _
            have hb6 := Lib.hid (HB6.out w hb2.out)
            obtain ⟨As6, cs6, rfl, -, -⟩ := HS6.out.srow.form
            have HS7 := Lib.hid (HS6.out.rowedI HA6.out 1 (.int .i64 (idxB sc [(!b), b, (!b)] : Int)))
            clear HNum HV HB6 HI6 HS2 HA2 HAB hb2 HKc
            generalize hsn : numB sc [(!b), b, (!b)] = sn at *
            generalize hix : idxB sc [(!b), b, (!b)] = ix at *
            generalize nth (rc ++ List.replicate (2 - 1) 0) 1 = old at co
            have Hsn := Lib.hid hsn
            have Hix := Lib.hid hix
            clear hsn hix
            go_upto_region 20 with fail
            have HA7 := Lib.hid (HA6.out.set 1 (ix : Int))
            have hb7 := Lib.hid (hb6.out.setCell (p := ⟨Ri, 1, none⟩) hBR (.int .i64 (ix : Int)))
            generalize w6.setCell ⟨Ri, 1, none⟩ (.int .i64 (ix : Int)) = w7 at HS7 HA7 hb7 ⊢
            clear co hf HS6 HA6 hb6 hlen
            have z0 : w7.cell? ⟨bS, 0, none⟩ = some (.slice As6 sn.length cs6) := HS7.out.sets.cell 0
            have hgt : ¬ (400 : Int) < sn.length := by omega
            go_wp2_with fail
            go_roundw
            case rel => exact ⟨1 + 1, _, f6, _, by decide, by first | rfl | go_num, by rw [HStep.out]; exact HS7, by rw [HStep.out]; exact HK6, by rw [HStep.out, ← row_set Q4.out (by decide)]; exact HA7, hb7⟩
            case measure => simp [intOf]
        · obtain rfl : c = 2 := by omega
          have hcn : ¬ ((2 : Nat) : Int) < 2 := by omega
          generalize (autR b ss 2).1 = sc at *
          generalize (autR b ss 2).2 = rc at *
          obtain ⟨An', cn', rfl, -, -⟩ := HSc.out.nrow.form
          obtain ⟨Am', cm', rfl, -, -⟩ := HSc.out.mrow.form
          have m5 := cell_keep hbq.out M5.out
          have k0 : wr.cell? ⟨br, or, none⟩ = some (.int .i64 0) := cell_keep hbq.out Hcr.out
          have hlM : M < wr.heap.size := Nat.lt_of_lt_of_le hl hbq.out.size
          have hmi : (m : Int) < sc.length := by omega
          have hone : 0 < ([0] : List Int).length := by decide
          have hlen1 : ([] : List Int).length + ([0] : List Int).length ≤ 1000000 := by decide
          have hln : nx.length + 1 ≤ 1000000 := by omega
          have hlm : mk.length + 1 ≤ 1000000 := by omega
          have HAr : Hid (Arr wr Ri rc) := Lib.hid (by simpa using HAc.out)
          have hrl : rc.length = 2 := q4
          have Hrl := Lib.hid hrl
          have Q3 := Lib.hid q3
          clear hrl q3
          clear HAc q4 q1 hl3 hl4 hl1
          obtain rfl | rfl : m = 0 ∨ m = 1 := by omega
          · skip
            have HNx : Hid (autF b (0 + 1) = (sc, nx ++ [rc], mk ++ [[]])) := Lib.hid (by
              have h := HNext.out
              rw [HX.out] at h
              exact h)
            have hx : rowBl sc 0 = fl b false := Q3.out
            obtain ⟨z0, bv, ov, cv, zn, z1, z2, z3, z4⟩ := HSc.out.flag q2 hx
            have Hx := Lib.hid hx
            clear hx
            go_wp2_with fail
            refine wp_loop_rounds 2 ?_
            rw [rounds_succ]
            go_wp2_with fail
            rw [rounds_succ]
            have HM : Hid (IsI wr.heap.size wr (.slice none 0 0) []) := Lib.hid ⟨none, 0, rfl, IntsT.nil, Nat.le_refl _, fun _ => rfl⟩
            have HSx := HSc
            have hbx := hbq
            have HAx := HAr
            clear z0 z1 z2 z3 z4 k0 m5 HSc hbq HAr
            generalize wr = wx at HM HSx hbx HAx ⊢
            have Am : Option Addr := none
            have cm : Nat := 0
            have n0 : wx.cell? ⟨bA, 0, none⟩ = some (.slice An' nx.length cn') := HSx.out.auto.cell 0
            have HO := Lib.hid (HSx.out.otherI (Nat.le_refl _)).nrow
            have HV : Hid (IsI wx.heap.size wx (.slice (some ⟨Ri, 0, none⟩) 2 2) rc) := Lib.hid (by
              have h := HAx.out.isI (R := wx.heap.size) (by have : Ri < wx.heap.size := HAx.out.lt; omega)
              rw [Hrl.out] at h
              exact h)
            have hB2 : w.heap.size ≤ wx.heap.size := HSx.out.lB
            go_wp2_with (at_builtin; refine wpR rfl _ _ rfl rfl HO.out HV.out rfl rfl hln hB2 ?_)
            intro nv2 w8 hoA hgA hlA
            obtain ⟨i1, i2, i3, i4, i5⟩ := HSx.out.next2 hgA.out hoA.out (by have := hlA.out; simpa using this)
            obtain ⟨A2, c2, e2, -, -⟩ := hoA.out.form
            rw [List.length_append, List.length_singleton] at e2
            subst e2
            have HS9 := Lib.hid i1
            have HM9 := Lib.hid ((i4 _ _ _ HM.out))
            have hb9 := Lib.hid (i5 _ hbx.out)
            clear i1 i4 i5 hoA hgA hlA HO HV HM HSx hbx HAx n0
            go_upto_region 31 with fail
            generalize w8.setCell ⟨bA, 0, none⟩ (.slice A2 (nx.length + 1) c2) = wy at HS9 HM9 hb9 ⊢
            clear i2 i3
            have n1 : wy.cell? ⟨bA, 1, none⟩ = some (.slice Am' mk.length cm') := HS9.out.auto.cell 1
            have HO := Lib.hid (HS9.out.otherI (Nat.le_refl _)).mrow
            have HV := Lib.hid (HM9.out.other (Nat.le_refl wy.heap.size))
            have hB3 : w.heap.size ≤ wy.heap.size := HS9.out.lB
            go_wp2_with (at_builtin; refine wpR rfl _ _ rfl rfl HO.out HV.out rfl rfl hlm hB3 ?_)
            intro mv2 w11 hoB hgB hlB
            obtain ⟨j1, j2, j3, j4, j5⟩ := HS9.out.mark2 hgB.out hoB.out (by have := hlB.out; simpa using this)
            obtain ⟨A3, c3, e3, -, -⟩ := hoB.out.form
            rw [List.length_append, List.length_singleton] at e3
            subst e3
            have HSz := Lib.hid j1
            have hbz := Lib.hid (j5 _ hb9.out)
            clear j1 j4 j5 hoB hgB hlB HO HV HM9 HS9 hb9 n1
            go_wp2_with fail
            go_roundw
            case rel => exact ⟨0 + 1, wy.heap.size, Rb1, fq, _, _, _, by decide, by first | rfl | go_num, by rw [HNx.out]; exact HSz, by rw [HNx.out]; exact HKc, hbz⟩
            case measure => simp [intOf]
          · skip
            have HNx : Hid (autF b (1 + 1) = (sc, nx ++ [rc], mk ++ [[0]])) := Lib.hid (by
              have h := HNext.out
              rw [HX.out] at h
              exact h)
            have hx : rowBl sc 1 = fl b true := Q3.out
            obtain ⟨z0, bv, ov, cv, zn, z1, z2, z3, z4⟩ := HSc.out.flag q2 hx
            have Hx := Lib.hid hx
            clear hx
            go_wp2_with fail
            refine wp_loop_rounds 2 ?_
            rw [rounds_succ]
            have HT : Hid (IntsAt (wr.alloc (.cells #[.int .i64 0] 3)) (some ⟨wr.heap.size, 0, none⟩) [0]) := Lib.hid (ints_new _ [0] _)
            have hw0 : (wr.alloc (.cells #[.int .i64 0] 3)).heap.size ≤ (wr.alloc (.cells #[.int .i64 0] 3)).heap.size := Nat.le_refl _
            go_wp2_with (at_builtin; refine wpI rfl _ _ rfl (wr.alloc (.cells #[.int .i64 0] 3)).heap.size rfl (OwnI.nil _ _) [0] rfl HT.out hone hlen1 hw0 ?_)
            intro v7 w7 hO7 hb7
            have hb8 : Below (wr.alloc (.cells #[.int .i64 0] 3)).heap.size (wr.alloc (.cells #[.int .i64 0] 3)) w7 := by simpa using hb7 _ (Below.refl _ _)
            have hbB := bUp (bBox wr (.cells #[.int .i64 0] 3)) hb8
            have HSx := Lib.hid (HSc.out.keep hbB)
            have hbx := Lib.hid (bUp hbq.out hbB)
            have HAx := Lib.hid (HAr.out.keep hbB)
            have HM0 := Lib.hid ((hO7.out.isI (R := 0) (by simp)).other (R' := w7.heap.size) (Nat.le_refl _))
            obtain ⟨Am, cm, rfl⟩ := hO7.out.form
            have HM : Hid (IsI w7.heap.size w7 (.slice Am 1 cm) [0]) := HM0
            clear HM0 hO7 hb7 hb8 hbB HT hw0 z0 z1 z2 z3 z4 k0 m5 HSc hbq HAr
            go_wp2_with fail
            rw [rounds_succ]
            generalize w7 = wx at HM HSx hbx HAx ⊢
            have n0 : wx.cell? ⟨bA, 0, none⟩ = some (.slice An' nx.length cn') := HSx.out.auto.cell 0
            have HO := Lib.hid (HSx.out.otherI (Nat.le_refl _)).nrow
            have HV : Hid (IsI wx.heap.size wx (.slice (some ⟨Ri, 0, none⟩) 2 2) rc) := Lib.hid (by
              have h := HAx.out.isI (R := wx.heap.size) (by have : Ri < wx.heap.size := HAx.out.lt; omega)
              rw [Hrl.out] at h
              exact h)
            have hB2 : w.heap.size ≤ wx.heap.size := HSx.out.lB
            go_wp2_with (at_builtin; refine wpR rfl _ _ rfl rfl HO.out HV.out rfl rfl hln hB2 ?_)
            intro nv2 w8 hoA hgA hlA
            obtain ⟨i1, i2, i3, i4, i5⟩ := HSx.out.next2 hgA.out hoA.out (by have := hlA.out; simpa using this)
            obtain ⟨A2, c2, e2, -, -⟩ := hoA.out.form
            rw [List.length_append, List.length_singleton] at e2
            subst e2
            have HS9 := Lib.hid i1
            have HM9 := Lib.hid ((i4 _ _ _ HM.out))
            have hb9 := Lib.hid (i5 _ hbx.out)
            clear i1 i4 i5 hoA hgA hlA HO HV HM HSx hbx HAx n0
            go_upto_region 31 with fail
            generalize w8.setCell ⟨bA, 0, none⟩ (.slice A2 (nx.length + 1) c2) = wy at HS9 HM9 hb9 ⊢
            clear i2 i3
            have n1 : wy.cell? ⟨bA, 1, none⟩ = some (.slice Am' mk.length cm') := HS9.out.auto.cell 1
            have HO := Lib.hid (HS9.out.otherI (Nat.le_refl _)).mrow
            have HV := Lib.hid (HM9.out.other (Nat.le_refl wy.heap.size))
            have hB3 : w.heap.size ≤ wy.heap.size := HS9.out.lB
            go_wp2_with (at_builtin; refine wpR rfl _ _ rfl rfl HO.out HV.out rfl rfl hlm hB3 ?_)
            intro mv2 w11 hoB hgB hlB
            obtain ⟨j1, j2, j3, j4, j5⟩ := HS9.out.mark2 hgB.out hoB.out (by have := hlB.out; simpa using this)
            obtain ⟨A3, c3, e3, -, -⟩ := hoB.out.form
            rw [List.length_append, List.length_singleton] at e3
            subst e3
            have HSz := Lib.hid j1
            have hbz := Lib.hid (j5 _ hb9.out)
            clear j1 j4 j5 hoB hgB hlB HO HV HM9 HS9 hb9 n1
            go_wp2_with fail
            go_roundw
            case rel => exact ⟨1 + 1, wy.heap.size, Rb1, fq, _, _, _, by decide, by first | rfl | go_num, by rw [HNx.out]; exact HSz, by rw [HNx.out]; exact HKc, hbz⟩
            case measure => simp [intOf]
    · obtain rfl : m = 2 := by omega
      have hmi : ¬ (2 : Int) < (autF b 2).1.length := by omega
      obtain ⟨An', cn', rfl, -, -⟩ := HS.out.nrow.form
      obtain ⟨Am', cm', rfl, -, -⟩ := HS.out.mrow.form
      have hl5 := hl5
      clear hl5 hl3 hl4
      have n0 : wr.cell? ⟨bA, 0, none⟩ = some (.slice An' (autF b 2).2.1.length cn') := HS.out.auto.cell 0
      have n1 : wr.cell? ⟨bA, 1, none⟩ = some (.slice Am' (autF b 2).2.2.length cm') := HS.out.auto.cell 1
      have HRs := HS.out.res hne
      have r0 : wr.cell? ⟨w.heap.size, 0, none⟩ = some (.slice none 0 0) := HRs.cell 0
      have r1 : wr.cell? ⟨w.heap.size, 1, none⟩ = some (.slice none 0 0) := HRs.cell 1
      have r2 : wr.frozen? ⟨w.heap.size, 0, none⟩ = false := HRs.frozen 0
      have r3 : wr.frozen? ⟨w.heap.size, 1, none⟩ = false := HRs.frozen 1
      have hA1 : ∀ t, (26 : TypeId) ≠ t → Away wr (some w.heap.size) t := fun t ht => Away.of_cells HRs ht
      have hR1 := HRs.setAll (i := 0) (.slice An' (autF b 2).2.1.length cn')
      have hA2 : ∀ t, (26 : TypeId) ≠ t → Away (wr.setCell ⟨w.heap.size, 0, none⟩ (.slice An' (autF b 2).2.1.length cn')) (some w.heap.size) t := fun t ht => Away.of_cells hR1 ht
      have HW := Lib.hid (hR1.setAll (i := 1) (.slice Am' (autF b 2).2.2.length cm'))
      have HN2 := Lib.hid ((HS.out.nrow.away (grown_set wr ⟨w.heap.size, 0, none⟩ (.slice An' (autF b 2).2.1.length cn')) (.inr (hA1 _ (by decide))) (hA1 _ (by decide))).away (grown_set (wr.setCell ⟨w.heap.size, 0, none⟩ (.slice An' (autF b 2).2.1.length cn')) ⟨w.heap.size, 1, none⟩ (.slice Am' (autF b 2).2.2.length cm')) (.inr (hA2 _ (by decide))) (hA2 _ (by decide)))
      have HM2 := Lib.hid ((HS.out.mrow.away (grown_set wr ⟨w.heap.size, 0, none⟩ (.slice An' (autF b 2).2.1.length cn')) (.inr (hA1 _ (by decide))) (hA1 _ (by decide))).away (grown_set (wr.setCell ⟨w.heap.size, 0, none⟩ (.slice An' (autF b 2).2.1.length cn')) ⟨w.heap.size, 1, none⟩ (.slice Am' (autF b 2).2.2.length cm')) (.inr (hA2 _ (by decide))) (hA2 _ (by decide)))
      have hbW := Lib.hid ((hbr.out.setCell (p := ⟨w.heap.size, 0, none⟩) (Nat.le_refl _) (.slice An' (autF b 2).2.1.length cn')).setCell (p := ⟨w.heap.size, 1, none⟩) (Nat.le_refl _) (.slice Am' (autF b 2).2.2.length cm'))
      have HEnd := Lib.hid (autF_end b)
      clear hA1 hA2 hR1 HRs HS hbr
      go_wp2_with fail
      clear r0 r1 r2 r3 n0 n1
      generalize (wr.setCell ⟨w.heap.size, 0, none⟩ (.slice An' (autF b 2).2.1.length cn')).setCell ⟨w.heap.size, 1, none⟩ (.slice Am' (autF b 2).2.2.length cm') = wz at HW HN2 HM2 hbW ⊢
      have f0 : wz.cell? ⟨w.heap.size, 0, none⟩ = some (.slice An' (autF b 2).2.1.length cn') := HW.out.cell 0
      have f1 : wz.cell? ⟨w.heap.size, 1, none⟩ = some (.slice Am' (autF b 2).2.2.length cm') := HW.out.cell 1
      refine bodyPost_ret (v := .tuple #[.agg #[.slice An' (autF b 2).2.1.length cn', .slice Am' (autF b 2).2.2.length cm'], .bool true]) (by simp [results, Tryd.results43, go_sem, f0, f1]) rfl ⟨Ri0, _, _, rfl, ?_, ?_, hbW⟩
      · have h := HN2.out
        rw [show (autF b 2).2.1 = nextF b from congrArg Prod.fst HEnd.out] at h ⊢
        exact Lib.hid h
      · have h := HM2.out
        rw [show (autF b 2).2.2 = [[], [0]] from congrArg Prod.snd HEnd.out] at h ⊢
        exact Lib.hid h
end Go.Proofs.YtlmdjggpeiddoaaDoor
