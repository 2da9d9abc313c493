/- charset.Missing -/
import Derived.Test.YthpiopjpipdgnaaDoorCsM1
import Derived.Test.YthpiopjpipdgnaaDoorShelf
import Derived.Laws.AppendOwnNone
import Derived.Shelf.Slices.In.SortNone
namespace Go.Proofs.YthpiopjpipdgnaaDoor
open Go.RowKit Go.Sort

theorem below_put {w : World} {base g n : Nat} (os : Array Obj) (d : Array Int) (hg : base ≤ g) (hlt : base ≤ w.heap.size) : Below base w (grow (putRow (Value.int .i64) (Sort.ahead w n) g 0 d) os) := by
  refine ⟨rfl, rfl, rfl, by simp [grow, putRow, mapBlock, Sort.ahead], fun k hk => ?_⟩
  rw [heap_grow_old _ _ (by simp [putRow, mapBlock, Sort.ahead]; omega)]
  have : g ≠ k := by omega
  simp [putRow, mapBlock, Sort.ahead, Array.getElem?_modify, this]
/-- a slice of ints that may be sorted in place, its block from base on -/
def HoldI (base : Nat) (w : World) (A : Option Addr) (zs : List Int) : Prop := zs = [] ∨ ∃ g, A = some ⟨g, 0, none⟩ ∧ base ≤ g ∧ g < w.heap.size ∧ Holds (Value.int .i64) w g 0 zs.toArray
theorem OwnI.hold {w : World} {base : Nat} {A : Option Addr} {c : Nat} {zs : List Int} (h : OwnI w base (.slice A zs.length c) zs) : HoldI base w A zs ∧ zs.length ≤ c := by
  rcases h.2 with ⟨hv, h0⟩ | ⟨g, cap, cur, hv, hbase, hb, h1, h2, h3, h4⟩
  · exact ⟨.inl (List.length_eq_zero_iff.1 h0), by omega⟩
  · injection hv with e1 _ e3
    subst e1 e3
    refine ⟨.inr ⟨g, rfl, hbase, (Array.getElem?_eq_some_iff.1 hb).1, ?_⟩, h1⟩
    intro j hj
    have hj' : j < zs.length := by simpa using hj
    have hc := World.ownsRow.cells h (g := g) rfl j (.int .i64 zs[j]) (by simp [intVals, hj'])
    rw [Go.WideShapes.add_plain] at hc
    exact ⟨by rw [hc]; simp [hj'], by simp [World.frozen?, hb]⟩
theorem HoldI.ints {base : Nat} {w : World} {A : Option Addr} {zs : List Int} (h : HoldI base w A zs) : IntsAt w A zs := by
  intro hn
  rcases h with h | ⟨g, hA, _, hlt, hh⟩
  · rw [h] at hn; cases hn
  · refine ⟨g, 0, hA, hlt, fun j hj => ?_⟩
    rw [(hh j (by simpa using hj)).1]
    simp [nth, hj]
theorem sortI {w : World} {base : Nat} {A : Option Addr} (c : Nat) {zs : List Int} (h : HoldI base w A zs) (hl : zs.length ≤ 1000000) (hb : base ≤ w.heap.size) :
    Calls Tryd.prog 49 #[.slice A zs.length c] w fun e w' => e = .returned (.tuple #[]) ∧ HoldI base w' A (zs.mergeSort fun x y => decide (x ≤ y)) ∧ Below base w w' := by
  rcases h with h | ⟨g, rfl, hbase, hlt, hh⟩
  · subst h
    refine (Any.slices_Sort_int_none Tryd.lays189 A c w).mono ?_
    rintro e w' ⟨he, rfl⟩
    exact ⟨he, .inl (by simp), Below.refl _ _⟩
  · refine (Tryd.slices_Sort_int g 0 c zs w hh hlt (by omega)).mono ?_
    rintro e w' ⟨he, n, os, rfl⟩
    refine ⟨he, .inr ⟨g, rfl, hbase, ?_, ?_⟩, below_put os _ hbase hb⟩
    · simp [grow, putRow, mapBlock, Sort.ahead]; omega
    · refine holds_grow _ _ _ _ _ _ (by simpa [putRow, mapBlock, Sort.ahead] using hlt) (holds_putRow _ _ _ _ zs.toArray _ (holds_ahead _ _ n _ _ _ hh) (by simp))
theorem compactI {w : World} {base : Nat} {A : Option Addr} (n c : Nat) {zs : List Int} (h : HoldI base w A zs) (hn : zs.length = n) (hl : zs.length ≤ 1000000) (hc : zs.length ≤ c) (hb : base ≤ w.heap.size) :
    Calls Tryd.prog 50 #[.slice A n c] w fun e w' => (∃ A', e = .returned (.slice A' (Lib.compact zs).length c) ∧ IntsAt w' A' (Lib.compact zs)) ∧ Below base w w' := by
  subst hn
  rcases h with h | ⟨g, rfl, hbase, hlt, hh⟩
  · subst h
    refine (Tryd.slices_Compact_int_empty A c w).mono ?_
    rintro e w' ⟨he, rfl⟩
    exact ⟨⟨A, he, IntsAt.nil⟩, Below.refl _ _⟩
  · refine (Tryd.slices_Compact_int g 0 c zs w hh (by omega) hc).mono ?_
    rintro e w' ⟨he, q, rfl⟩
    have hle := Lib.compact_length_le zs
    have hput := holds_putRow (Value.int .i64) (Sort.ahead w q) g 0 zs.toArray (Lib.compact zs ++ List.replicate (zs.length - (Lib.compact zs).length) 0).toArray (holds_ahead _ _ q _ _ _ hh) (by simp; omega)
    refine ⟨⟨_, he, fun _ => ⟨g, 0, rfl, by simpa [putRow, mapBlock, Sort.ahead] using hlt, fun j hj => ?_⟩⟩, ?_⟩
    · rw [(hput j (by simp; omega)).1]
      simp [nth, hj, List.getElem_append, show j < (Lib.compact zs).length + (zs.length - (Lib.compact zs).length) by omega]
    · have := below_put (w := w) (n := q) #[] (Lib.compact zs ++ List.replicate (zs.length - (Lib.compact zs).length) 0).toArray hbase hb
      exact ⟨this.os, this.tape, this.output, by simp, fun k hk => by have h2 := this.block k hk; simpa [grow] using h2⟩

theorem filt_hit {f : Int → Option Int} {l acc : List Int} {k : Nat} (hk : k < l.length) (h : acc = (l.take k).filter fun x => !(f x).isSome) (hx : (f (nth l k)).isSome = true) : acc = (l.take (k + 1)).filter fun x => !(f x).isSome := by
  rw [List.take_succ_eq_append_getElem hk, List.filter_append, ← h]
  rw [nth_lt hk] at hx
  rw [List.filter_cons, if_neg (by rw [hx]; simp), List.filter_nil, List.append_nil]
theorem filt_miss {f : Int → Option Int} {l acc : List Int} {k : Nat} (hk : k < l.length) (h : acc = (l.take k).filter fun x => !(f x).isSome) (hx : (f (nth l k)).isSome = false) : acc ++ [nth l k] = (l.take (k + 1)).filter fun x => !(f x).isSome := by
  rw [List.take_succ_eq_append_getElem hk, List.filter_append, ← h]
  rw [nth_lt hk] at hx ⊢
  rw [List.filter_cons, if_pos (by rw [hx]; rfl), List.filter_nil]
def MissOut (r : List Int) (w : World) (e : Ending) (w' : World) : Prop := ∃ A c, e = .returned (.slice A r.length c) ∧ IntsAt w' A r ∧ Below w.heap.size w w'

set_option maxHeartbeats 4000000 in
set_option maxRecDepth 100000 in
theorem csMissing (zs text : List Int) (A B : Option Addr) (cap cap2 : Nat) (w : World) (hA : IntsAt w A zs) (hl : zs.length ≤ 300) (hB : IntsAt w B text) (hl2 : text.length ≤ 100) (hT : WfInts text) :
    Calls Tryd.prog 25 #[.agg #[.slice A zs.length cap], .slice B text.length cap2] w (MissOut (missR zs text) w) := by
  have HC := Lib.hid (fun w' hb => csCheck zs A cap w' (IntsAt.keep hA hb) hl)
  by_cases hc : checkC zs = 0
  · have hc' : (checkC zs != 0) = false := by simpa using hc
    obtain ⟨hn, hr, ht⟩ := codes_of_check hc
    have hcod := codes_ok hr
    have hl' : zs.length ≤ 256 := by omega
    have HV := Lib.hid (miss_sorted (text := text) hc)
    have HX := Lib.hid (fun w' hb => csIndex zs A cap w' (IntsAt.keep hA hb) hl' hcod)
    have HI := Lib.hid (idxF_eq hc)
    have HA := Lib.hid hA
    have HB := Lib.hid hB
    have HT := Lib.hid hT
    have Hc := Lib.hid hc
    have Hn := Lib.hid hn
    have Hr := Lib.hid hr
    have Ht := Lib.hid ht
    have Hcod := Lib.hid hcod
    clear hA hB hT hc hn hr ht hcod
    go_enter Tryd.func25, Tryd.ntmps25
    go_wp2_with fail
    refine (HC.out _ (bBox _ _)).mono ?_
    rintro e w1 ⟨rfl, hb1⟩
    have c1 := ((Blk.new w #[.slice A zs.length cap] 24).keep hb1).cell 0
    have hw1 : Below w.heap.size w w1 := bUp (bBox _ _) hb1
    go_wp2_with fail
    refine (HX.out _ hw1).mono ?_
    rintro e w2 ⟨rfl, hmap, hb2⟩
    rw [HI.out] at hmap
    have hw2 : Below w.heap.size w w2 := bUp hw1 hb2
    have Hmap := Lib.hid hmap
    clear hmap
    clear c1
    go_wp2_with fail
    go_loopw [6, 18] (fun o i wr => ∃ (k : Nat) (acc : List Int), k ≤ text.length ∧ i = .int .i64 k ∧ Hid (OwnI wr w2.heap.size o acc) ∧ acc.length ≤ k ∧ Hid (acc = (text.take k).filter fun x => !(byteF zs x).isSome) ∧ Below w2.heap.size w2 wr) (fun _ i _ => text.length - (intOf i).toNat)
    case atStart => exact ⟨0, [], Nat.zero_le _, rfl, Lib.hid (OwnI.nil _ _), by simp, Lib.hid (by simp), Below.refl _ _⟩
    case round =>
      obtain ⟨k, acc, hk, rfl, HO, hacc, HE, hbr⟩ := hrel
      by_cases hlt : k < text.length
      · obtain ⟨b, off, rfl, hb, hcc⟩ := (HB.out.keep (bUp hw2 hbr)).at_ (k := k) hlt
        have hwf : (Lit.int .i64 (nth text k)).wf = true := by have := HT.out _ (nth_mem hlt); exact wfI this.1 this.2
        have hlook := (Hmap.out.grow hbr).look (t := 52) Tryd.underlying3 Tryd.underlying52 Tryd.underlying5 (zeroByte _) hwf
        have Hwf := Lib.hid hwf
        clear hwf
        cases hx : (byteF zs (nth text k)).isSome
        · have HE' := Lib.hid (filt_miss hlt HE.out hx)
          rw [hx] at hlook
          have Hx := Lib.hid hx
          clear hx
          go_wp2_with (at_builtin; refine wpI rfl _ _ rfl w2.heap.size rfl (HO.out.keep (bBox _ _)) [nth text k] rfl (ints_new _ _ _) (by simp) ?c1 ?c2 ?_)
          case c1 => simp; omega
          case c2 => have h1 := hbr.size; simp; omega
          intro v' w3 hown3 hb3
          have hb4 := hb3 w2 (bUp hbr (bBox _ _))
          clear hb3
          go_wp2_with fail
          go_roundw
          case rel => exact ⟨k + 1, _, by omega, by go_num, hown3, by simp; omega, HE', hb4⟩
          case measure => simp [intOf]; omega
        · have HE' := Lib.hid (filt_hit hlt HE.out hx)
          rw [hx] at hlook
          have Hx := Lib.hid hx
          clear hx
          go_wp2_with fail
          go_roundw
          case rel => exact ⟨k + 1, acc, by omega, by go_num, HO, by omega, HE', hbr⟩
          case measure => simp [intOf]; omega
      · have HE' := Lib.hid (show acc = text.filter fun x => !(byteF zs x).isSome by rw [HE.out, List.take_of_length_le (by omega)])
        obtain ⟨A', c', rfl⟩ := HO.out.form
        have hsz := hbr.size
        clear HE
        go_wp2_with fail
        refine (sortI c' HO.out.hold.1 (by omega) hsz).mono ?_
        rintro e w3 ⟨rfl, hh3, hb3⟩
        have hle : (acc.mergeSort fun x y => decide (x ≤ y)).length = acc.length := by simp
        have hcc := HO.out.hold.2
        have HS := Lib.hid (show Lib.compact (acc.mergeSort fun x y => decide (x ≤ y)) = missR zs text by rw [HE'.out]; exact HV.out)
        generalize (acc.mergeSort fun x y => decide (x ≤ y)) = so at hh3 hle HS
        have Hh3 := Lib.hid hh3
        have Hle := Lib.hid hle
        clear hh3 hle
        have hs3 := hb3.size
        go_wp2_with fail
        refine (compactI acc.length c' Hh3.out Hle.out (by rw [Hle.out]; omega) (by rw [Hle.out]; exact hcc) (by omega)).mono ?_
        rintro e w4 ⟨⟨A4, rfl, h4⟩, hb4⟩
        rw [HS.out] at h4 ⊢
        have H4 := Lib.hid h4
        clear h4
        have hbb : Below w2.heap.size w2 w4 := (hbr.trans hb3).trans hb4
        go_wp2_with fail
        go_ret
        exact ⟨A4, c', rfl, H4.out, bUp hw2 hbb⟩
  · have hc' : (checkC zs != 0) = true := by simpa using hc
    have HV := Lib.hid (show missR zs text = [] by simp [missR, hc])
    have Hc := Lib.hid hc
    have HB := Lib.hid hB
    have HT := Lib.hid hT
    clear hc hB hT
    clear hA
    go_enter Tryd.func25, Tryd.ntmps25
    go_wp2_with fail
    refine (HC.out _ (bBox _ _)).mono ?_
    rintro e w1 ⟨rfl, hb1⟩
    go_wp2_with fail
    go_ret
    rw [HV.out]
    exact ⟨none, 0, rfl, IntsAt.nil, bUp (bBox _ _) hb1⟩
end Go.Proofs.YthpiopjpipdgnaaDoor
