/- ref06.Parse -/
import Derived.Test.YthpiopjpipdgnaaDoorCs13
import Derived.Test.YthpiopjpipdgnaaDoorCs9
namespace Go.Proofs.YthpiopjpipdgnaaDoor
open Go.RowKit Go.Sort

def fillL (k : Nat) : List Int := List.replicate k (-1) ++ List.replicate (256 - k) 0
theorem fillL_set {k : Nat} (h : k < 256) : (fillL k).set k (-1) = fillL (k + 1) := by
  unfold fillL
  rw [List.set_append, if_neg (by simp)]
  simp only [List.length_replicate, Nat.sub_self]
  obtain ⟨m, hm⟩ : ∃ m, 256 - k = m + 1 := ⟨256 - k - 1, by omega⟩
  rw [hm, List.replicate_succ, List.set_cons_zero, show 256 - (k + 1) = m by omega, List.replicate_succ' (n := k)]
  simp
theorem fillL_256 : fillL 256 = List.replicate 256 (-1) := by unfold fillL; rw [Nat.sub_self, List.replicate_zero, List.append_nil]
theorem fillL_len {k : Nat} (h : k ≤ 256) : (fillL k).length = 256 := by simp [fillL]; omega

/-- the reference's state in its second loop -/
structure RInv (w wr : World) (g gC : Nat) (A : Option Addr) (ps : List (List UInt8)) (k : Nat) (cs : List Int) : Prop where
  len : cs.length = 256
  row : Row wr g cs
  c : Blk wr gC #[.slice (some ⟨g, 0, none⟩) 256 256] 24
  b0 : Blk wr w.heap.size #[.slice none 0 0] 24
  b1 : Blk wr (w.heap.size + 1) #[.int .i64 0, .int .i64 0] 30
  pcs : StrsAt wr A ps
  far : ∀ b off, A = some ⟨b, off, none⟩ → gC < b
  below : Below w.heap.size w wr
  codes : ∀ z ∈ cs, z = -1 ∨ 0 ≤ z
  go : parseFrom ps 0 (List.replicate 256 (-1)) = parseFrom (ps.drop k) k cs
  lg : w.heap.size + 1 < g
  lC : g < gC

section
variable {w wr w' : World} {g gC : Nat} {A : Option Addr} {ps : List (List UInt8)} {k : Nat} {cs : List Int}
theorem RInv.grow (h : RInv w wr g gC A ps k cs) (hb : Below wr.heap.size wr w') : RInv w w' g gC A ps k cs :=
  { h with row := (hb.block g h.row.lt).trans h.row, c := h.c.keep hb, b0 := h.b0.keep hb, b1 := h.b1.keep hb, pcs := h.pcs.keep hb, below := bUp h.below hb }
theorem RInv.empty (h : RInv w wr g gC A ps k cs) (hk : k < ps.length) (he : piece ps k = []) : RInv w wr g gC A ps (k + 1) cs :=
  { h with go := by rw [h.go, drop_piece hk, parseFrom, if_pos he] }
theorem RInv.store (h : RInv w wr g gC A ps k cs) (hk : k < ps.length) (hne : ¬ piece ps k = []) {n : Nat} {x : Int} (hl : lineP (piece ps k) = some ((n : Int), x)) (hx : 0 ≤ x)
    (hfree : ¬ (nth cs n ≠ -1 ∨ x ∈ cs)) : RInv w (wr.setCell ⟨g, n, none⟩ (.int .i64 x)) g gC A ps (k + 1) (cs.set n x) := by
  have hlg := h.lg
  have hlC := h.lC
  have hr := h.row.set n x
  exact {
    len := by simpa using h.len
    row := hr
    c := h.c.far (p := ⟨g, n, none⟩) (by show gC ≠ g; omega) _
    b0 := h.b0.far (p := ⟨g, n, none⟩) (by show w.heap.size ≠ g; omega) _
    b1 := h.b1.far (p := ⟨g, n, none⟩) (by show w.heap.size + 1 ≠ g; omega) _
    pcs := fun hz => by
      obtain ⟨b, off, e, hlt, hc⟩ := h.pcs hz
      have hb := h.far b off e
      exact ⟨b, off, e, by simpa [World.setCell] using hlt, fun j hj => (World.cell?_setCell_other _ _ _ _ (by intro e'; injection e' with e'; omega)).trans (hc j hj)⟩
    far := h.far
    below := h.below.setCell (p := ⟨g, n, none⟩) (by show w.heap.size ≤ g; omega) _
    codes := fun z hz => by
      rcases List.mem_or_eq_of_mem_set hz with h' | h'
      · exact h.codes z h'
      · exact .inr (by omega)
    go := by
      rw [h.go, drop_piece hk, parseFrom, if_neg hne, hl]
      simp only [Int.toNat_natCast]
      rw [if_neg hfree]
    lg := h.lg
    lC := h.lC }
theorem RInv.bad (h : RInv w wr g gC A ps k cs) (hk : k < ps.length) (hne : ¬ piece ps k = []) (hl : lineP (piece ps k) = none) : parseFrom ps 0 (List.replicate 256 (-1)) = (none, 3, ((k + 1 : Nat) : Int)) := by
  rw [h.go, drop_piece hk, parseFrom, if_neg hne, hl]
theorem RInv.twice (h : RInv w wr g gC A ps k cs) (hk : k < ps.length) (hne : ¬ piece ps k = []) {n : Nat} {x : Int} (hl : lineP (piece ps k) = some ((n : Int), x)) (hbad : nth cs n ≠ -1 ∨ x ∈ cs) : parseFrom ps 0 (List.replicate 256 (-1)) = (none, 5, ((k + 1 : Nat) : Int)) := by
  rw [h.go, drop_piece hk, parseFrom, if_neg hne, hl]
  simp only [Int.toNat_natCast]
  rw [if_pos hbad]
theorem RInv.done (h : RInv w wr g gC A ps k cs) (hk : ps.length ≤ k) : parseFrom ps 0 (List.replicate 256 (-1)) = (some cs, 0, 0) := by
  rw [h.go, List.drop_of_length_le hk, parseFrom]
theorem byteL_nonneg {x : Int} {cs : List Int} (hx : 0 ≤ x) : 0 ≤ byteL x cs 0 ↔ x ∈ cs := by
  constructor
  · intro h
    refine Decidable.byContradiction fun hn => ?_
    rw [byteL_not_mem x cs 0 (.inl hn)] at h
    omega
  · intro h
    have := (byteL_mem x hx cs 0 0).2.1 h
    omega
end

/-- the reference's state in its first loop -/
structure FInv (w wr : World) (g gC : Nat) (k : Nat) : Prop where
  row : Row wr g (fillL k)
  c : Blk wr gC #[.slice (some ⟨g, 0, none⟩) 256 256] 24
  b0 : Blk wr w.heap.size #[.slice none 0 0] 24
  b1 : Blk wr (w.heap.size + 1) #[.int .i64 0, .int .i64 0] 30
  below : Below w.heap.size w wr
  lg : w.heap.size + 1 < g
  lC : g < gC
theorem FInv.next {w wr : World} {g gC k : Nat} (h : FInv w wr g gC k) (hk : k < 256) : FInv w (wr.setCell ⟨g, k, none⟩ (.int .i64 (-1))) g gC (k + 1) := by
  have hlg := h.lg
  have hlC := h.lC
  exact {
    row := by rw [← fillL_set hk]; exact h.row.set k (-1)
    c := h.c.far (p := ⟨g, k, none⟩) (by show gC ≠ g; omega) _
    b0 := h.b0.far (p := ⟨g, k, none⟩) (by show w.heap.size ≠ g; omega) _
    b1 := h.b1.far (p := ⟨g, k, none⟩) (by show w.heap.size + 1 ≠ g; omega) _
    below := h.below.setCell (p := ⟨g, k, none⟩) (by show w.heap.size ≤ g; omega) _
    lg := h.lg
    lC := h.lC }

set_option maxHeartbeats 4000000 in
set_option maxRecDepth 100000 in
theorem rf6Parse (l : List UInt8) (w : World) (hs : l.length ≤ 9223372036854775807) :
    Calls Tryd.prog 18 #[.string ⟨l.toArray⟩] w (ParseOut (parseC l) w) := by
  by_cases hl : 65536 < l.length
  · have HV := Lib.hid (show parseC l = (none, 2, 0) by simp [parseC, hl])
    go_enter Tryd.func18, Tryd.ntmps18
    go_wp2_with fail
    refine bodyPost_ret (v := .tuple #[.agg #[.slice none 0 0], .agg #[.int .i64 2, .int .i64 0]]) (by simp [results, Tryd.results18, go_sem]) rfl ?_
    rw [HV.out]
    exact ⟨none, 0, rfl, IntsAt.nil, bUp (bBox _ _) (bBox _ _)⟩
  · have HV := Lib.hid (show parseC l = parseFrom (splitL 10 l) 0 (List.replicate 256 (-1)) by simp [parseC, hl])
    have hmk := make256
    generalize hr0 : repC 0 = r0 at hmk
    have Hr0 := Lib.hid hr0
    clear hr0
    go_enter Tryd.func18, Tryd.ntmps18
    go_wp2_with fail
    have hF : FInv w ((((w.alloc (.cells #[.slice none 0 0] 24)).alloc (.cells #[.int .i64 0, .int .i64 0] 30)).alloc (.cells r0.toArray 3)).alloc (.cells #[.slice (some ⟨w.heap.size + 1 + 1, 0, none⟩) 256 256] 24)) (w.heap.size + 1 + 1) (w.heap.size + 1 + 1 + 1) 0 :=
      { row := by
          have h1 := (Blk.new ((w.alloc (.cells #[.slice none 0 0] 24)).alloc (.cells #[.int .i64 0, .int .i64 0] 30)) r0.toArray 3).alloc (.cells #[.slice (some ⟨w.heap.size + 1 + 1, 0, none⟩) 256 256] 24)
          simp only [World.size_alloc] at h1
          unfold Row fillL
          unfold Blk at h1
          rw [h1, ← Hr0.out]
          simp [repC]
        c := by
          have h1 := Blk.new (((w.alloc (.cells #[.slice none 0 0] 24)).alloc (.cells #[.int .i64 0, .int .i64 0] 30)).alloc (.cells r0.toArray 3)) #[.slice (some ⟨w.heap.size + 1 + 1, 0, none⟩) 256 256] 24
          simpa using h1
        b0 := (((Blk.new w _ _).alloc _).alloc _).alloc _
        b1 := by
          have h1 := ((Blk.new (w.alloc (.cells #[.slice none 0 0] 24)) #[.int .i64 0, .int .i64 0] 30).alloc (.cells r0.toArray 3)).alloc (.cells #[.slice (some ⟨w.heap.size + 1 + 1, 0, none⟩) 256 256] 24)
          simpa using h1
        below := bUp (bUp (bUp (bBox _ _) (bBox _ _)) (bBox _ _)) (bBox _ _)
        lg := by omega
        lC := by omega }
    have HF := Lib.hid hF
    clear hF
    go_loopw [5] (fun i wr => ∃ k : Nat, k ≤ 256 ∧ i = .int .i64 k ∧ FInv w wr (w.heap.size + 1 + 1) (w.heap.size + 1 + 1 + 1) k) (fun i _ => 256 - (intOf i).toNat)
    case atStart => exact ⟨0, by omega, rfl, HF.out⟩
    case round =>
      obtain ⟨k, hk, rfl, hi⟩ := hrel
      by_cases hlt : k < 256
      · have c0 := hi.c.cell 0
        have r1 := hi.row.cell (i := k) (by rw [fillL_len hk]; exact hlt)
        have r2 := hi.row.frozen k
        have HI := Lib.hid (hi.next hlt)
        clear hi
        go_wp2_with fail
        go_roundw
        case rel => exact ⟨k + 1, by omega, by go_num, HI.out⟩
        case measure => simp [intOf]; omega
      · obtain rfl : k = 256 := by omega
        have Hi := Lib.hid hi
        clear hi
        go_wp2_with fail
        refine (rfSplit l _ (by omega)).mono ?_
        rintro e w2 ⟨⟨A, c, rfl, hstr, hfar⟩, hb2⟩
        have hinv : RInv w w2 (w.heap.size + 1 + 1) (w.heap.size + 1 + 1 + 1) A (splitL 10 l) 0 (List.replicate 256 (-1)) :=
          { len := by simp
            row := (hb2.block _ Hi.out.row.lt).trans (by rw [← fillL_256]; exact Hi.out.row)
            c := Hi.out.c.keep hb2
            b0 := Hi.out.b0.keep hb2
            b1 := Hi.out.b1.keep hb2
            pcs := hstr
            far := fun b off hA => by have h1 := hfar b off hA; have h2 := Hi.out.c.lt; omega
            below := bUp Hi.out.below hb2
            codes := fun z hz => .inl (List.eq_of_mem_replicate hz)
            go := rfl
            lg := Hi.out.lg
            lC := Hi.out.lC }
        have hple := splitL_piece_le 10 l
        have hpl : (splitL 10 l).length ≤ 65537 := by rw [splitL_length]; have := List.count_le_length (a := (10 : UInt8)) (l := l); omega
        generalize hps : splitL 10 l = ps at hinv hple HV hpl ⊢
        have Hinv := Lib.hid hinv
        have Hple := Lib.hid hple
        clear hinv hple
        clear hps hstr hfar hb2 Hi HF
        go_wp2_with fail
        go_loopw [7] (fun i wr => ∃ (k : Nat) (cs : List Int), k ≤ ps.length ∧ i = .int .i64 k ∧ RInv w wr (w.heap.size + 1 + 1) (w.heap.size + 1 + 1 + 1) A ps k cs) (fun i _ => ps.length - (intOf i).toNat)
        case atStart => exact ⟨0, _, Nat.zero_le _, rfl, Hinv.out⟩
        case round =>
          obtain ⟨k, cs, hk, rfl, hi⟩ := hrel
          by_cases hlt : k < ps.length
          · obtain ⟨b, off, rfl, hblt, hcp⟩ := (show ∃ b off, A = some ⟨b, off, none⟩ ∧ b < wr.heap.size ∧ wr.cell? ⟨b, off + k, none⟩ = some (.string ⟨(piece ps k).toArray⟩) by
              obtain ⟨b, off, e, h1, h2⟩ := hi.pcs (by omega)
              exact ⟨b, off, e, h1, h2 k hlt⟩)
            have hpm := Hple.out _ (piece_mem hlt)
            by_cases he : piece ps k = []
            · rw [he] at hcp
              have HI := Lib.hid (hi.empty hlt he)
              clear hi he hpm
              go_wp2_with fail
              go_roundw
              case rel => exact ⟨k + 1, cs, by omega, by go_num, HI.out⟩
              case measure => simp [intOf]; omega
            · have hem : (piece ps k).isEmpty = false := by cases h : piece ps k with
                | nil => exact absurd h he
                | cons a r => rfl
              have HP := Lib.hid (rfLine (piece ps k) wr (by omega))
              cases hline : lineP (piece ps k) with
              | none =>
                have HR := Lib.hid (HV.out.trans (hi.bad hlt he hline))
                rw [hline] at HP
                have Hi := Lib.hid hi
                have He := Lib.hid he
                clear hi he
                clear hline
                generalize piece ps k = pk at hcp hem HP hpm
                go_wp2_with fail
                refine HP.out.mono ?_
                rintro e w3 ⟨⟨b1, x1, rfl, _⟩, hb3⟩
                have HI := Lib.hid (Hi.out.grow hb3)
                have a0 := HI.out.b0.cell 0
                have f0 := HI.out.b0.frozen 0
                have a1 := HI.out.b1.cell 0
                have a2 := HI.out.b1.cell 1
                have f1 := HI.out.b1.frozen 0
                have f2 := HI.out.b1.frozen 1
                clear HP
                unfold Option.isSome
                go_wp2_with fail
                refine bodyPost_ret (v := .tuple #[.agg #[.slice none 0 0], .agg #[.int .i64 3, .int .i64 ((k + 1 : Nat) : Int)]]) (by simp [results, Tryd.results18, go_sem, a0, a1, a2]) rfl ?_
                rw [HR.out]
                refine ⟨none, 0, rfl, IntsAt.nil, ?_⟩
                exact bSet2 (HI.out.below.setCell (p := ⟨w.heap.size, 0, none⟩) (Nat.le_refl _) _) (Nat.le_succ _) _ _
              | some q =>
                obtain ⟨bq, x⟩ := q
                obtain ⟨hb0, hb256, hsc⟩ := lineP_range hline
                obtain ⟨n, rfl⟩ := Int.eq_ofNat_of_zero_le hb0
                have hn : n < 256 := by omega
                obtain ⟨hx0, hx1⟩ := scalar_range hsc
                have hcn0 := hi.codes _ (nth_mem (zs := cs) (k := n) (by rw [hi.len]; exact hn))
                have hbm := byteL_nonneg (cs := cs) hx0
                have hPy : ∀ w', Below wr.heap.size wr w' → Calls Tryd.prog 29 #[.agg #[.slice (some ⟨w.heap.size + 1 + 1, 0, none⟩) 256 256], .int .i64 x] w' fun e w'' => e = .returned (.int .i64 (byteL x cs 0)) ∧ Below w'.heap.size w' w'' := by
                  intro w' hb'
                  have h1 := refByte cs (some ⟨w.heap.size + 1 + 1, 0, none⟩) 256 x w' (hi.grow hb').row.ints (by rw [hi.len]; omega)
                  rw [hi.len] at h1
                  exact h1
                have HPy := Lib.hid hPy
                clear hPy
                have HL := Lib.hid (show Calls Tryd.prog 42 #[.string ⟨(piece ps k).toArray⟩] wr fun e w' => e = .returned (.tuple #[.int .i64 (n : Int), .int .i64 x, .bool true]) ∧ Below wr.heap.size wr w' from
                  HP.out.mono fun e w' ⟨⟨b1, x1, he1, hq1⟩, hb1⟩ => by
                    have h2 := hq1 _ hline
                    injection h2 with h3 h4
                    subst h3 h4
                    exact ⟨by rw [he1, hline]; rfl, hb1⟩)
                clear HP hsc hb0 hb256
                by_cases hcs : nth cs n = -1
                · have hq1 : decide (0 ≤ nth cs n) = false := by simp; omega
                  by_cases hmem : x ∈ cs
                  · have hq2 : decide (0 ≤ byteL x cs 0) = true := by simpa using hbm.2 hmem
                    have HR := Lib.hid (HV.out.trans (hi.twice hlt he hline (.inr hmem)))
                    have Hi := Lib.hid hi
                    have He := Lib.hid he
                    have Hcs := Lib.hid hcs
                    clear hi he hcs
                    clear hline hmem hbm hcn0
                    generalize piece ps k = pk at hcp hem HL hpm
                    go_wp2_with fail
                    refine HL.out.mono ?_
                    rintro e w3 ⟨rfl, hb3⟩
                    have HI := Lib.hid (Hi.out.grow hb3)
                    have a0 := HI.out.b0.cell 0
                    have f0 := HI.out.b0.frozen 0
                    have a1 := HI.out.b1.cell 0
                    have a2 := HI.out.b1.cell 1
                    have f1 := HI.out.b1.frozen 0
                    have f2 := HI.out.b1.frozen 1
                    have c0 := HI.out.c.cell 0
                    have hcn := HI.out.row.cell (i := n) (by rw [HI.out.len]; exact hn)
                    have hfn := HI.out.row.frozen n
                    clear HL
                    go_wp2_with fail
                    refine (HPy.out _ hb3).mono ?_
                    rintro e w4 ⟨rfl, hb4⟩
                    have HI := Lib.hid (HI.out.grow hb4)
                    have a0 := HI.out.b0.cell 0
                    have f0 := HI.out.b0.frozen 0
                    have a1 := HI.out.b1.cell 0
                    have a2 := HI.out.b1.cell 1
                    have f1 := HI.out.b1.frozen 0
                    have f2 := HI.out.b1.frozen 1
                    have c0 := HI.out.c.cell 0
                    have hcn := HI.out.row.cell (i := n) (by rw [HI.out.len]; exact hn)
                    have hfn := HI.out.row.frozen n
                    go_wp2_with fail
                    refine bodyPost_ret (v := .tuple #[.agg #[.slice none 0 0], .agg #[.int .i64 5, .int .i64 ((k + 1 : Nat) : Int)]]) (by simp [results, Tryd.results18, go_sem, a0, a1, a2]) rfl ?_
                    rw [HR.out]
                    refine ⟨none, 0, rfl, IntsAt.nil, ?_⟩
                    exact bSet2 (HI.out.below.setCell (p := ⟨w.heap.size, 0, none⟩) (Nat.le_refl _) _) (Nat.le_succ _) _ _
                  · have hq2 : decide (0 ≤ byteL x cs 0) = false := by
                      have : ¬ 0 ≤ byteL x cs 0 := fun h => hmem (hbm.1 h)
                      simpa using this
                    have hfree : ¬ (nth cs n ≠ -1 ∨ x ∈ cs) := by simp [hcs, hmem]
                    have hgen : ∀ w', Below wr.heap.size wr w' → RInv w (w'.setCell ⟨w.heap.size + 1 + 1, n, none⟩ (.int .i64 x)) (w.heap.size + 1 + 1) (w.heap.size + 1 + 1 + 1) (some ⟨b, off, none⟩) ps (k + 1) (cs.set n x) := fun w' hb' => (hi.grow hb').store hlt he hline hx0 hfree
                    have Hi := Lib.hid hi
                    have He := Lib.hid he
                    have Hcs := Lib.hid hcs
                    have Hgen := Lib.hid hgen
                    clear hi he hcs hgen
                    clear hline hmem hbm hcn0 hfree
                    generalize piece ps k = pk at hcp hem HL hpm
                    go_wp2_with fail
                    refine HL.out.mono ?_
                    rintro e w3 ⟨rfl, hb3⟩
                    have HI := Lib.hid (Hi.out.grow hb3)
                    have a0 := HI.out.b0.cell 0
                    have f0 := HI.out.b0.frozen 0
                    have a1 := HI.out.b1.cell 0
                    have a2 := HI.out.b1.cell 1
                    have f1 := HI.out.b1.frozen 0
                    have f2 := HI.out.b1.frozen 1
                    have c0 := HI.out.c.cell 0
                    have hcn := HI.out.row.cell (i := n) (by rw [HI.out.len]; exact hn)
                    have hfn := HI.out.row.frozen n
                    clear HL
                    go_wp2_with fail
                    refine (HPy.out _ hb3).mono ?_
                    rintro e w4 ⟨rfl, hb4⟩
                    have HI := Lib.hid (HI.out.grow hb4)
                    have a0 := HI.out.b0.cell 0
                    have f0 := HI.out.b0.frozen 0
                    have a1 := HI.out.b1.cell 0
                    have a2 := HI.out.b1.cell 1
                    have f1 := HI.out.b1.frozen 0
                    have f2 := HI.out.b1.frozen 1
                    have c0 := HI.out.c.cell 0
                    have hcn := HI.out.row.cell (i := n) (by rw [HI.out.len]; exact hn)
                    have hfn := HI.out.row.frozen n
                    have HN := Lib.hid (Hgen.out w4 (bUp hb3 hb4))
                    go_wp2_with fail
                    go_roundw
                    case rel => exact ⟨k + 1, _, by omega, by go_num, HN.out⟩
                    case measure => simp [intOf]; omega
                · have hq1 : decide (0 ≤ nth cs n) = true := by
                    have : 0 ≤ nth cs n := hcn0.resolve_left hcs
                    simpa using this
                  have HR := Lib.hid (HV.out.trans (hi.twice hlt he hline (.inl hcs)))
                  have Hi := Lib.hid hi
                  have He := Lib.hid he
                  have Hcs := Lib.hid hcs
                  clear hi he hcs
                  clear hline hbm hcn0
                  generalize piece ps k = pk at hcp hem HL hpm
                  go_wp2_with fail
                  refine HL.out.mono ?_
                  rintro e w3 ⟨rfl, hb3⟩
                  have HI := Lib.hid (Hi.out.grow hb3)
                  have a0 := HI.out.b0.cell 0
                  have f0 := HI.out.b0.frozen 0
                  have a1 := HI.out.b1.cell 0
                  have a2 := HI.out.b1.cell 1
                  have f1 := HI.out.b1.frozen 0
                  have f2 := HI.out.b1.frozen 1
                  have c0 := HI.out.c.cell 0
                  have hcn := HI.out.row.cell (i := n) (by rw [HI.out.len]; exact hn)
                  have hfn := HI.out.row.frozen n
                  clear HL
                  go_wp2_with fail
                  refine bodyPost_ret (v := .tuple #[.agg #[.slice none 0 0], .agg #[.int .i64 5, .int .i64 ((k + 1 : Nat) : Int)]]) (by simp [results, Tryd.results18, go_sem, a0, a1, a2]) rfl ?_
                  rw [HR.out]
                  refine ⟨none, 0, rfl, IntsAt.nil, ?_⟩
                  exact bSet2 (HI.out.below.setCell (p := ⟨w.heap.size, 0, none⟩) (Nat.le_refl _) _) (Nat.le_succ _) _ _
          · have HR := Lib.hid (HV.out.trans (hi.done (by omega)))
            have HI := Lib.hid hi
            have c0 := hi.c.cell 0
            have a0 := HI.out.b0.cell 0
            have f0 := HI.out.b0.frozen 0
            have a1 := HI.out.b1.cell 0
            have a2 := HI.out.b1.cell 1
            have f1 := HI.out.b1.frozen 0
            have f2 := HI.out.b1.frozen 1
            clear hi
            go_wp2_with fail
            refine bodyPost_ret (v := .tuple #[.agg #[.slice (some ⟨w.heap.size + 1 + 1, 0, none⟩) 256 256], .agg #[.int .i64 0, .int .i64 0]]) (by simp [results, Tryd.results18, go_sem, a0, a1, a2]) rfl ?_
            rw [HR.out]
            refine ⟨some ⟨w.heap.size + 1 + 1, 0, none⟩, 256, by rw [show ((some cs, (0 : Int), (0 : Int)) : POut).1.getD [] = cs from rfl, HI.out.len], ?_, ?_⟩
            · refine Row.ints ?_
              exact (Below.heap_setCell _ _ _ _ (by show w.heap.size + 1 + 1 ≠ w.heap.size + 1; omega)).trans ((Below.heap_setCell _ _ _ _ (by show w.heap.size + 1 + 1 ≠ w.heap.size + 1; omega)).trans ((Below.heap_setCell _ _ _ _ (by show w.heap.size + 1 + 1 ≠ w.heap.size; omega)).trans HI.out.row))
            · exact bSet2 (HI.out.below.setCell (p := ⟨w.heap.size, 0, none⟩) (Nat.le_refl _) _) (Nat.le_succ _) _ _
end Go.Proofs.YthpiopjpipdgnaaDoor
