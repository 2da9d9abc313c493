/- charset.Parse -/
import Derived.Test.YthpiopjpipdgnaaDoorCs6
import Derived.Test.YthpiopjpipdgnaaDoorCs2
import Derived.Test.YthpiopjpipdgnaaDoorRep
import Derived.Test.YthpiopjpipdgnaaDoorBase2
namespace Go.Proofs.YthpiopjpipdgnaaDoor
open Go.RowKit Go.Sort

/-- block g is a row of the ints cs -/
def Row (w : World) (g : Nat) (cs : List Int) : Prop := w.heap[g]? = some (.cells (cs.map (Value.int .i64)).toArray 3 (0, 0))
theorem Row.lt {w : World} {g : Nat} {cs : List Int} (h : Row w g cs) : g < w.heap.size := (Array.getElem?_eq_some_iff.1 h).1
theorem Row.cell {w : World} {g : Nat} {cs : List Int} (h : Row w g cs) {i : Nat} (hi : i < cs.length) : w.cell? ⟨g, i, none⟩ = some (.int .i64 (nth cs i)) := by
  rw [Lib.cell_of_heap h]
  simp [nth_lt hi, hi]
theorem Row.frozen {w : World} {g : Nat} {cs : List Int} (h : Row w g cs) (i : Nat) : w.frozen? ⟨g, i, none⟩ = false := Lib.frozen_of_heap h i
theorem Row.set {w : World} {g : Nat} {cs : List Int} (h : Row w g cs) (i : Nat) (x : Int) : Row (w.setCell ⟨g, i, none⟩ (.int .i64 x)) g (cs.set i x) := by
  unfold Row at *
  simp [World.setCell, Array.getElem?_modify, h, List.map_set]
theorem Row.ints {w : World} {g : Nat} {cs : List Int} (h : Row w g cs) : IntsAt w (some ⟨g, 0, none⟩) cs :=
  fun _ => ⟨g, 0, rfl, h.lt, fun j hj => by rw [Nat.zero_add]; exact h.cell hj⟩

/-- what Parse returns: a charset's codes, or none, and a fault -/
abbrev POut := Option (List Int) × Int × Int
def parseFrom : List (List UInt8) → Nat → List Int → POut
  | [], _, cs => (some cs, 0, 0)
  | p :: ps, i, cs => if p = [] then parseFrom ps (i + 1) cs else
    match lineP p with
    | none => (none, 3, ((i + 1 : Nat) : Int))
    | some q => if nth cs q.1.toNat ≠ -1 ∨ q.2 ∈ cs then (none, 5, ((i + 1 : Nat) : Int)) else parseFrom ps (i + 1) (cs.set q.1.toNat q.2)
def parseC (l : List UInt8) : POut := if 65536 < l.length then (none, 2, 0) else parseFrom (splitL 10 l) 0 (List.replicate 256 (-1))

def ParseOut (r : POut) (w : World) (e : Ending) (w' : World) : Prop :=
  ∃ A c, e = .returned (.tuple #[.agg #[.slice A (r.1.getD []).length c], .agg #[.int .i64 r.2.1, .int .i64 r.2.2]]) ∧ IntsAt w' A (r.1.getD []) ∧ Below w.heap.size w w'

theorem lineP_range {l : List UInt8} {b x : Int} (h : lineP l = some (b, x)) : 0 ≤ b ∧ b < 256 ∧ scalarB x = true := by
  match l, h with
  | a :: b' :: s :: r, h =>
    simp only [lineP] at h
    split at h
    · rename_i hc
      have h1 := hexVal_le (a.toNat : Int)
      have h2 := hexVal_le (b'.toNat : Int)
      split at h
      · split at h
        · rename_i hs
          cases h
          exact ⟨by omega, by omega, hs⟩
        · cases h
      · cases h
    · cases h
theorem scalar_range {x : Int} (h : scalarB x = true) : 0 ≤ x ∧ x ≤ 1114111 := by
  have hv : validB x = true := by unfold scalarB at h; simp at h; exact h.1
  unfold validB at hv
  exact of_decide_eq_true hv

theorem csSplit (c : UInt8) (l : List UInt8) (w : World) (hE : Env w) (hl : l.length < 4294967281) :
    Calls Tryd.prog 40 #[.string ⟨l.toArray⟩, .string ⟨#[c]⟩] w fun e w' => e = .returned (.slice (some ⟨w.heap.size, 0, none⟩) (splitL c l).length (splitL c l).length) ∧ w.alloc (.cells ((splitL c l).map fun p => Value.string ⟨p.toArray⟩).toArray 9) = w' := by
  obtain ⟨m, hm⟩ := hE.mx
  refine (Tryd.strings_Split ⟨l.toArray⟩ ⟨#[c]⟩ m w hl hm (by simp [ByteArray.size])).mono ?_
  rintro e w' ⟨rfl, rfl⟩
  have hc : Lib.countB ⟨l.toArray⟩ ⟨#[c]⟩ = l.count c := Lib.count_one c l
  refine ⟨by rw [hc, splitL_length], by rw [splitB_one]⟩

/-- the k-th piece -/
def piece (ps : List (List UInt8)) (k : Nat) : List UInt8 := ps.getD k []
theorem drop_piece {ps : List (List UInt8)} {k : Nat} (h : k < ps.length) : ps.drop k = piece ps k :: ps.drop (k + 1) := by
  unfold piece
  rw [List.getD_eq_getElem?_getD, List.getElem?_eq_getElem h]
  exact List.drop_eq_getElem_cons h
theorem piece_mem {ps : List (List UInt8)} {k : Nat} (h : k < ps.length) : piece ps k ∈ ps := by
  unfold piece
  rw [List.getD_eq_getElem?_getD, List.getElem?_eq_getElem h]
  exact List.getElem_mem h
def strCellsOf (ps : List (List UInt8)) : Array Value := (ps.map fun p => Value.string ⟨p.toArray⟩).toArray
theorem piece_cell {w : World} {b : Nat} {ps : List (List UInt8)} (h : Blk w b (strCellsOf ps) 9) {k : Nat} (hk : k < ps.length) : w.cell? ⟨b, k, none⟩ = some (.string ⟨(piece ps k).toArray⟩) := by
  rw [h.cell k]
  unfold strCellsOf piece
  simp [hk]

theorem splitL_piece_le (c : UInt8) : ∀ (l : List UInt8), ∀ p ∈ splitL c l, p.length ≤ l.length
  | [], p, hp => by simp [splitL] at hp; subst hp; simp
  | b :: l, p, hp => by
    have ih := splitL_piece_le c l
    by_cases hb : b = c
    · subst hb
      rw [splitL_hit] at hp
      rcases List.mem_cons.1 hp with h | h
      · subst h; simp
      · have := ih p h; simp; omega
    · rw [splitL_miss hb] at hp
      cases hs : splitL c l with
      | nil => exact absurd hs (splitL_ne c l)
      | cons q qs =>
        rw [hs] at hp ih
        rcases List.mem_cons.1 hp with h | h
        · subst h; have := ih q (by simp); simp; omega
        · have := ih p (by simp [h]); simp; omega

/-- Parse's state after k lines: the codes cs (block g), the set of the codes (block gM), the pieces (block gS), the cells of the results (b0, b0 + 1) -/
structure PInv (w wr : World) (g gM gS : Nat) (ps : List (List UInt8)) (k : Nat) (cs : List Int) (s : Int → Bool) : Prop where
  len : cs.length = 256
  row : Row wr g cs
  set : SetMap Tryd.prog 3 4 wr gM k s
  mem : ∀ y, y ≠ -1 → s y = decide (y ∈ cs)
  b0 : Blk wr w.heap.size #[.slice none 0 0] 24
  b1 : Blk wr (w.heap.size + 1) #[.int .i64 0, .int .i64 0] 30
  pcs : Blk wr gS (strCellsOf ps) 9
  below : Below w.heap.size w wr
  go : parseFrom ps 0 (List.replicate 256 (-1)) = parseFrom (ps.drop k) k cs
  lg : w.heap.size + 1 < g
  lM : g < gM
  lS : gM < gS

section
variable {w wr w' : World} {g gM gS : Nat} {ps : List (List UInt8)} {k : Nat} {cs : List Int} {s : Int → Bool}
theorem PInv.grow (h : PInv w wr g gM gS ps k cs s) (hb : Below wr.heap.size wr w') : PInv w w' g gM gS ps k cs s :=
  { h with row := (hb.block g h.row.lt).trans h.row, set := h.set.grow hb, b0 := h.b0.keep hb, b1 := h.b1.keep hb, pcs := h.pcs.keep hb, below := bUp h.below hb }
theorem PInv.empty (h : PInv w wr g gM gS ps k cs s) (hk : k < ps.length) (he : piece ps k = []) : PInv w wr g gM gS ps (k + 1) cs s :=
  { h with
    set := by obtain ⟨D, ho, hs⟩ := h.set; exact ⟨D, ho.mono (Nat.le_succ _), hs⟩
    go := by rw [h.go, drop_piece hk, parseFrom, if_pos he] }
theorem mem_set_new {cs : List Int} {n : Nat} {x : Int} (hn : n < cs.length) (ho : nth cs n = -1) (y : Int) (hy : y ≠ -1) : y ∈ cs.set n x ↔ y = x ∨ y ∈ cs := by
  constructor
  · intro h
    rcases List.mem_or_eq_of_mem_set h with h | h
    · exact .inr h
    · exact .inl h
  · intro h
    rcases h with rfl | h
    · exact List.mem_set hn y
    · obtain ⟨i, hi, e⟩ := List.getElem_of_mem h
      have hin : n ≠ i := by
        intro e'
        subst e'
        rw [nth_lt hi, e] at ho
        exact hy ho
      rw [← e, ← List.getElem_set_ne hin (by simpa using hi)]
      exact List.getElem_mem _
theorem PInv.store (h : PInv w wr g gM gS ps k cs s) (hk : k < ps.length) (hne : ¬ piece ps k = []) {n : Nat} {x : Int} (hl : lineP (piece ps k) = some ((n : Int), x)) (hn : n < 256)
    (hfree : ¬ (nth cs n ≠ -1 ∨ x ∈ cs)) (hset : SetMap Tryd.prog 3 4 w' gM (k + 1) (fun y => y == x || s y))
    (hg : (wr.setCell ⟨g, n, none⟩ (.int .i64 x)).grownBy w' (some gM)) : PInv w w' g gM gS ps (k + 1) (cs.set n x) (fun y => y == x || s y) := by
  have hlg := h.lg
  have hlM := h.lM
  have hlS := h.lS
  have hr := h.row.set n x
  exact {
    len := by simpa using h.len
    row := (hg.block g hr.lt (by simp; omega)).trans hr
    set := hset
    mem := fun y hy => by
      have ho : nth cs n = -1 := Decidable.byContradiction fun e => hfree (.inl e)
      rw [h.mem y hy, Bool.eq_iff_iff]
      simp [mem_set_new (x := x) (by rw [h.len]; exact hn) ho y hy]
    b0 := (h.b0.far (p := ⟨g, n, none⟩) (by show w.heap.size ≠ g; omega) _).grown hg (by simp; omega)
    b1 := (h.b1.far (p := ⟨g, n, none⟩) (by show w.heap.size + 1 ≠ g; omega) _).grown hg (by simp; omega)
    pcs := (h.pcs.far (p := ⟨g, n, none⟩) (by show gS ≠ g; omega) _).grown hg (by simp; omega)
    below := (h.below.setCell (p := ⟨g, n, none⟩) (by show w.heap.size ≤ g; omega) _).grown hg (by have := h.below.size; simpa [World.setCell] using this) (by intro q hq; cases hq; omega)
    go := by
      rw [h.go, drop_piece hk, parseFrom, if_neg hne, hl]
      simp only [Int.toNat_natCast]
      rw [if_neg hfree]
    lg := h.lg
    lM := h.lM
    lS := h.lS }
theorem PInv.bad (h : PInv w wr g gM gS ps k cs s) (hk : k < ps.length) (hne : ¬ piece ps k = []) (hl : lineP (piece ps k) = none) : parseFrom ps 0 (List.replicate 256 (-1)) = (none, 3, ((k + 1 : Nat) : Int)) := by
  rw [h.go, drop_piece hk, parseFrom, if_neg hne, hl]
theorem PInv.twice (h : PInv w wr g gM gS ps k cs s) (hk : k < ps.length) (hne : ¬ piece ps k = []) {n : Nat} {x : Int} (hl : lineP (piece ps k) = some ((n : Int), x)) (hbad : nth cs n ≠ -1 ∨ x ∈ cs) : parseFrom ps 0 (List.replicate 256 (-1)) = (none, 5, ((k + 1 : Nat) : Int)) := by
  rw [h.go, drop_piece hk, parseFrom, if_neg hne, hl]
  simp only [Int.toNat_natCast]
  rw [if_pos hbad]
theorem PInv.done (h : PInv w wr g gM gS ps k cs s) (hk : ps.length ≤ k) : parseFrom ps 0 (List.replicate 256 (-1)) = (some cs, 0, 0) := by
  rw [h.go, List.drop_of_length_le hk, parseFrom]
end

set_option maxHeartbeats 4000000 in
set_option maxRecDepth 100000 in
theorem csParse (l : List UInt8) (w : World) (hE : Env w) (hs : l.length ≤ 9223372036854775807) :
    Calls Tryd.prog 17 #[.string ⟨l.toArray⟩] w (ParseOut (parseC l) w) := by
  by_cases hl : 65536 < l.length
  · have HV := Lib.hid (show parseC l = (none, 2, 0) by simp [parseC, hl])
    go_enter Tryd.func17, Tryd.ntmps17
    go_wp2_with fail
    refine bodyPost_ret (v := .tuple #[.agg #[.slice none 0 0], .agg #[.int .i64 2, .int .i64 0]]) (by simp [results, Tryd.results17, go_sem]) rfl ?_
    rw [HV.out]
    exact ⟨none, 0, rfl, IntsAt.nil, bUp (bBox _ _) (bBox _ _)⟩
  · have HV := Lib.hid (show parseC l = parseFrom (splitL 10 l) 0 (List.replicate 256 (-1)) by simp [parseC, hl])
    have hmm := @run_makeMap Tryd.prog
    have HE := Lib.hid hE
    clear hE
    go_enter Tryd.func17, Tryd.ntmps17
    go_wp2_with fail
    refine (repeat256 _ _ ?_ ?_).mono ?_
    · simp
    · simp [go_sem]
    rintro e w1 ⟨rfl, hg1, hb1⟩
    have B0 : Blk w1 w.heap.size #[.slice none 0 0] 24 := (((Blk.new w _ _).alloc _).alloc _).keep hb1
    have B1 : Blk w1 (w.heap.size + 1) #[.int .i64 0, .int .i64 0] 30 := by
      have := ((Blk.new (w.alloc (.cells #[.slice none 0 0] 24)) #[.int .i64 0, .int .i64 0] 30).alloc (.cells #[.int .i64 (-1)] 3)).keep hb1
      simpa using this
    have hg1' : Row w1 (w.heap.size + 1 + 1 + 1) (List.replicate 256 (-1)) := by
      have := hg1.out
      unfold Row
      rw [List.map_replicate]
      simpa [repC] using this
    have hbw : Below w.heap.size w w1 := bUp (bUp (bUp (bBox _ _) (bBox _ _)) (bBox _ _)) hb1
    have HB0 := Lib.hid B0
    have HB1 := Lib.hid B1
    have Hg1' := Lib.hid hg1'
    clear B0 B1 hg1'
    clear hg1 hb1
    go_wp2_with fail
    refine (csSplit 10 l _ ?_ (by omega)).mono ?_
    · exact HE.out.keep (bUp hbw (bBox _ _))
    rintro e w2 ⟨rfl, rfl⟩
    have hinv : PInv w ((w1.alloc (.map #[] 0)).alloc (.cells (strCellsOf (splitL 10 l)) 9)) (w.heap.size + 1 + 1 + 1) w1.heap.size (w1.heap.size + 1) (splitL 10 l) 0 (List.replicate 256 (-1)) (fun _ => false) :=
      { len := by simp
        row := (Below.heap_alloc _ _ _ (by have := Hg1'.out.lt; simp; omega)).trans ((Below.heap_alloc _ _ _ Hg1'.out.lt).trans Hg1'.out)
        set := (SetMap.made w1 _ _ _).grow (bBox _ _)
        mem := fun y hy => by simp [hy]
        b0 := (HB0.out.alloc _).alloc _
        b1 := (HB1.out.alloc _).alloc _
        pcs := by have := Blk.new (w1.alloc (.map #[] 0)) (strCellsOf (splitL 10 l)) 9; simpa using this
        below := bUp (bUp hbw (bBox _ _)) (bBox _ _)
        go := rfl
        lg := by omega
        lM := Hg1'.out.lt
        lS := Nat.lt_succ_self _ }
    have hple := splitL_piece_le 10 l
    have hpl : (splitL 10 l).length ≤ 65537 := by rw [splitL_length]; have := List.count_le_length (a := (10 : UInt8)) (l := l); omega
    generalize hps : splitL 10 l = ps at hinv hple HV hpl ⊢
    clear hps
    have Hinv := Lib.hid hinv
    have Hple := Lib.hid hple
    clear hinv hple
    go_wp2_with fail
    go_loopw [22] (fun i wr => ∃ (k : Nat) (cs : List Int) (s : Int → Bool), k ≤ ps.length ∧ i = .int .i64 k ∧ PInv w wr (w.heap.size + 1 + 1 + 1) w1.heap.size (w1.heap.size + 1) ps k cs s) (fun i _ => ps.length - (intOf i).toNat)
    case atStart => exact ⟨0, _, _, Nat.zero_le _, rfl, Hinv.out⟩
    case round =>
      obtain ⟨k, cs, s, hk, rfl, hi⟩ := hrel
      by_cases hlt : k < ps.length
      · have hcp := piece_cell hi.pcs hlt
        have hpm := Hple.out _ (piece_mem hlt)
        have hdp : Hid (piece ps k = piece ps k) := rfl
        by_cases he : piece ps k = []
        · rw [he] at hcp
          have HI := Lib.hid (hi.empty hlt he)
          clear hi he hdp hpm
          go_wp2_with fail
          go_roundw
          case rel => exact ⟨k + 1, cs, s, by omega, by go_num, HI.out⟩
          case measure => simp [intOf]; omega
        · have hem : (piece ps k).isEmpty = false := by cases h : piece ps k with
            | nil => exact absurd h he
            | cons a r => rfl
          have HP := Lib.hid (csParseLine (piece ps k) wr (HE.out.keep hi.below) (by omega))
          cases hline : lineP (piece ps k) with
          | none =>
            have HL := Lib.hid (show lineV (piece ps k) = .tuple #[.int .i64 0, .int .i64 0, .bool false] by simp [lineV, hline])
            have HR := Lib.hid (HV.out.trans (hi.bad hlt he hline))
            have Hi := Lib.hid hi
            have He := Lib.hid he
            clear hi he
            clear hline
            generalize piece ps k = pk at hcp hem HP HL hpm
            go_wp2_with fail
            refine HP.out.mono ?_
            rintro e w3 ⟨rfl, hb3⟩
            rw [HL.out]
            have HI := Lib.hid (Hi.out.grow hb3)
            have a0 := HI.out.b0.cell 0
            have f0 := HI.out.b0.frozen 0
            have a1 := HI.out.b1.cell 0
            have a2 := HI.out.b1.cell 1
            have f1 := HI.out.b1.frozen 0
            have f2 := HI.out.b1.frozen 1
            clear HP HL
            go_wp2_with fail
            refine bodyPost_ret (v := .tuple #[.agg #[.slice none 0 0], .agg #[.int .i64 3, .int .i64 ((k + 1 : Nat) : Int)]]) (by simp [results, Tryd.results17, go_sem, a0, a1, a2]) rfl ?_
            rw [HR.out]
            refine ⟨none, 0, rfl, IntsAt.nil, ?_⟩
            exact bSet2 (HI.out.below.setCell (p := ⟨w.heap.size, 0, none⟩) (Nat.le_refl _) _) (Nat.le_succ _) _ _
          | some q =>
            obtain ⟨b, x⟩ := q
            obtain ⟨hb0, hb256, hsc⟩ := lineP_range hline
            obtain ⟨n, rfl⟩ := Int.eq_ofNat_of_zero_le hb0
            have hn : n < 256 := by omega
            obtain ⟨hx0, hx1⟩ := scalar_range hsc
            have hxw := wfI (x := x) (by omega) (by omega)
            have hxn : x ≠ -1 := by omega
            have HL := Lib.hid (show lineV (piece ps k) = .tuple #[.int .i64 (n : Int), .int .i64 x, .bool true] by simp [lineV, hline])
            have Hxw := Lib.hid hxw
            clear hxw
            clear hsc hb0 hb256
            by_cases hcs : nth cs n = -1
            · have hq1 : (nth cs n != -1) = false := by simpa using hcs
              have hsx := hi.mem x hxn
              by_cases hmem : x ∈ cs
              · have hsx' : s x = true := by rw [hsx]; simpa using hmem
                have HR := Lib.hid (HV.out.trans (hi.twice hlt he hline (.inr hmem)))
                have Hi := Lib.hid hi
                have He := Lib.hid he
                have Hcs := Lib.hid hcs
                have Hsx' := Lib.hid hsx'
                clear hi he hcs hsx'
                clear hline hsx hmem hxn
                generalize piece ps k = pk at hcp hem HP HL hpm
                go_wp2_with fail
                refine HP.out.mono ?_
                rintro e w3 ⟨rfl, hb3⟩
                rw [HL.out]
                have HI := Lib.hid (Hi.out.grow hb3)
                have a0 := HI.out.b0.cell 0
                have f0 := HI.out.b0.frozen 0
                have a1 := HI.out.b1.cell 0
                have a2 := HI.out.b1.cell 1
                have f1 := HI.out.b1.frozen 0
                have f2 := HI.out.b1.frozen 1
                have hcn := HI.out.row.cell (i := n) (by rw [HI.out.len]; exact hn)
                have hfn := HI.out.row.frozen n
                have hlook := HI.out.set.look (t := 49) Tryd.underlying3 Tryd.underlying49 Tryd.underlying4 (zeroBool w3) (Hxw.out)
                rw [Hsx'.out] at hlook
                clear HP HL
                go_wp2_with fail
                refine bodyPost_ret (v := .tuple #[.agg #[.slice none 0 0], .agg #[.int .i64 5, .int .i64 ((k + 1 : Nat) : Int)]]) (by simp [results, Tryd.results17, go_sem, a0, a1, a2]) rfl ?_
                rw [HR.out]
                refine ⟨none, 0, rfl, IntsAt.nil, ?_⟩
                exact bSet2 (HI.out.below.setCell (p := ⟨w.heap.size, 0, none⟩) (Nat.le_refl _) _) (Nat.le_succ _) _ _
              · have hsx' : s x = false := by rw [hsx]; simpa using hmem
                have hfree : ¬ (nth cs n ≠ -1 ∨ x ∈ cs) := by simp [hcs, hmem]
                have hgen : ∀ w', Below wr.heap.size wr w' → ∃ w4, (Instr.mapUpdate 49 (.map (some w1.heap.size)) (.int .i64 x) (.bool true)).run Tryd.prog (w'.setCell ⟨w.heap.size + 1 + 1 + 1, n, none⟩ (.int .i64 x)) = .ok () w4 ∧ PInv w w4 (w.heap.size + 1 + 1 + 1) w1.heap.size (w1.heap.size + 1) ps (k + 1) (cs.set n x) (fun y => y == x || s y) := by
                  intro w' hb'
                  have hi' := hi.grow hb'
                  have hset' : SetMap Tryd.prog 3 4 (w'.setCell ⟨w.heap.size + 1 + 1 + 1, n, none⟩ (.int .i64 x)) w1.heap.size k s := hi'.set.keep (Below.heap_setCell _ _ _ _ (by show w1.heap.size ≠ w.heap.size + 1 + 1 + 1; have := hi'.lM; omega))
                  obtain ⟨w4, hrun, hs4, hg4⟩ := hset'.store (t := 49) Tryd.underlying3 Tryd.underlying49 Tryd.underlying4 (by unfold maxLen; omega) Hxw.out
                  exact ⟨w4, hrun, hi'.store hlt he hline hn hfree hs4 hg4⟩
                have Hi := Lib.hid hi
                have He := Lib.hid he
                have Hcs := Lib.hid hcs
                have Hsx' := Lib.hid hsx'
                have Hgen := Lib.hid hgen
                clear hi he hcs hsx' hgen
                clear hline hsx hmem hxn hfree
                generalize piece ps k = pk at hcp hem HP HL hpm
                go_wp2_with fail
                refine HP.out.mono ?_
                rintro e w3 ⟨rfl, hb3⟩
                rw [HL.out]
                have HI := Lib.hid (Hi.out.grow hb3)
                have a0 := HI.out.b0.cell 0
                have f0 := HI.out.b0.frozen 0
                have a1 := HI.out.b1.cell 0
                have a2 := HI.out.b1.cell 1
                have f1 := HI.out.b1.frozen 0
                have f2 := HI.out.b1.frozen 1
                have hcn := HI.out.row.cell (i := n) (by rw [HI.out.len]; exact hn)
                have hfn := HI.out.row.frozen n
                have hlook := HI.out.set.look (t := 49) Tryd.underlying3 Tryd.underlying49 Tryd.underlying4 (zeroBool w3) (Hxw.out)
                rw [Hsx'.out] at hlook
                obtain ⟨w4, hupd, hi4⟩ := Hgen.out w3 hb3
                have HI4 := Lib.hid hi4
                clear HP HL Hgen hi4
                go_wp2_with fail
                go_roundw
                case rel => exact ⟨k + 1, _, _, by omega, by go_num, HI4.out⟩
                case measure => simp [intOf]; omega
            · have hq1 : (nth cs n != -1) = true := by simpa using hcs
              have HR := Lib.hid (HV.out.trans (hi.twice hlt he hline (.inl hcs)))
              have Hi := Lib.hid hi
              have He := Lib.hid he
              have Hcs := Lib.hid hcs
              clear hi he hcs
              clear hline hxn
              generalize piece ps k = pk at hcp hem HP HL hpm
              go_wp2_with fail
              refine HP.out.mono ?_
              rintro e w3 ⟨rfl, hb3⟩
              rw [HL.out]
              have HI := Lib.hid (Hi.out.grow hb3)
              have a0 := HI.out.b0.cell 0
              have f0 := HI.out.b0.frozen 0
              have a1 := HI.out.b1.cell 0
              have a2 := HI.out.b1.cell 1
              have f1 := HI.out.b1.frozen 0
              have f2 := HI.out.b1.frozen 1
              have hcn := HI.out.row.cell (i := n) (by rw [HI.out.len]; exact hn)
              have hfn := HI.out.row.frozen n
              have hlook := HI.out.set.look (t := 49) Tryd.underlying3 Tryd.underlying49 Tryd.underlying4 (zeroBool w3) (Hxw.out)
              clear HP HL hlook
              go_wp2_with fail
              refine bodyPost_ret (v := .tuple #[.agg #[.slice none 0 0], .agg #[.int .i64 5, .int .i64 ((k + 1 : Nat) : Int)]]) (by simp [results, Tryd.results17, go_sem, a0, a1, a2]) rfl ?_
              rw [HR.out]
              refine ⟨none, 0, rfl, IntsAt.nil, ?_⟩
              exact bSet2 (HI.out.below.setCell (p := ⟨w.heap.size, 0, none⟩) (Nat.le_refl _) _) (Nat.le_succ _) _ _
      · have HR := Lib.hid (HV.out.trans (hi.done (by omega)))
        have a0 := hi.b0.cell 0
        have f0 := hi.b0.frozen 0
        have a1 := hi.b1.cell 0
        have a2 := hi.b1.cell 1
        have f1 := hi.b1.frozen 0
        have f2 := hi.b1.frozen 1
        have Hi := Lib.hid hi
        clear hi
        go_wp2_with fail
        refine bodyPost_ret (v := .tuple #[.agg #[.slice (some ⟨w.heap.size + 1 + 1 + 1, 0, none⟩) 256 256], .agg #[.int .i64 0, .int .i64 0]]) (by simp [results, Tryd.results17, go_sem, a0, a1, a2]) rfl ?_
        rw [HR.out]
        refine ⟨some ⟨w.heap.size + 1 + 1 + 1, 0, none⟩, 256, by rw [show ((some cs, (0 : Int), (0 : Int)) : POut).1.getD [] = cs from rfl, Hi.out.len], ?_, ?_⟩
        · have hl3 := Hi.out.lg
          refine Row.ints ?_
          exact (Below.heap_setCell _ _ _ _ (by show w.heap.size + 1 + 1 + 1 ≠ w.heap.size + 1; omega)).trans ((Below.heap_setCell _ _ _ _ (by show w.heap.size + 1 + 1 + 1 ≠ w.heap.size + 1; omega)).trans ((Below.heap_setCell _ _ _ _ (by show w.heap.size + 1 + 1 + 1 ≠ w.heap.size; omega)).trans Hi.out.row))
        · exact bSet2 (Hi.out.below.setCell (p := ⟨w.heap.size, 0, none⟩) (Nat.le_refl _) _) (Nat.le_succ _) _ _
end Go.Proofs.YthpiopjpipdgnaaDoor
