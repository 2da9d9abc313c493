/- strings.ContainsAny(f, ";#\n") on any bytes -/
import Derived.Test.YtafmdeipcepaiaaDoorLn17
namespace Go.Proofs.YtafmdeipcepaiaaDoor
open Go.RowKit Go.Sort

theorem any_sep (f : List UInt8) : decide (0 ≤ Lib.indexAny f [59, 35, 10]) = f.any sepB := by
  have hc : ∀ b : UInt8, [(59 : UInt8), 35, 10].contains b = sepB b := fun b => by simp only [List.contains_cons, List.contains_nil, Bool.or_false, sepB, Bool.or_assoc]
  induction f with
  | nil => rfl
  | cons b r ih =>
    have := Lib.indexAny_ge [59, 35, 10] r
    rw [Lib.indexAny, hc, List.any_cons, ← ih]
    cases sepB b
    · simp only [Bool.false_or, Bool.false_eq_true, if_false]
      split
      · rename_i h1; have h1 := beq_iff_eq.1 h1; rw [h1]
      · rename_i h1; simp at h1; congr 1; simp; omega
    · simp
theorem sep_lt {b : UInt8} (h : sepB b = true) : b.toNat < 128 := by
  simp only [sepB, Bool.or_eq_true, beq_iff_eq] at h
  rcases h with (rfl | rfl) | rfl <;> decide
theorem take_big {l : List UInt8} {i n : Nat} (h : (l.take i).any sepB = false) (hj : ∀ j (hj : j < l.length), i ≤ j → j < i + n → 128 ≤ l[j].toNat) : (l.take (i + n)).any sepB = false := by
  rw [← Bool.not_eq_true] at h ⊢
  intro h'
  obtain ⟨b, hb, hs⟩ := List.any_eq_true.1 h'
  obtain ⟨j, hjl, rfl⟩ := List.mem_iff_getElem.1 hb
  rw [List.getElem_take] at hs
  have hlt : j < l.length := by simp at hjl; omega
  have hj2 : j < i + n := by simp at hjl; omega
  by_cases hji : j < i
  · exact h (List.any_eq_true.2 ⟨l[j], List.mem_take_iff_getElem.2 ⟨j, by omega, rfl⟩, hs⟩)
  · have := hj j hlt (by omega) hj2
    have := sep_lt hs
    omega

set_option maxHeartbeats 8000000 in
set_option maxRecDepth 100000 in
theorem idxAnyShort (l : List UInt8) (w : World) (h8 : l.length ≤ 8) :
    Calls Tryd.prog 52 #[.string ⟨l.toArray⟩, .string ⟨#[59, 35, 10]⟩] w fun e w' => (∃ i, e = .returned (.int .i64 i) ∧ decide (0 ≤ i) = l.any sepB) ∧ Below w.heap.size w w' := by
  have hs : (ByteArray.mk l.toArray).size = l.length := by simp [ByteArray.size]
  have HU := Lib.hid (fun w' => Tryd.strings_shouldUseASCIISet l.length w')
  have hd : decide ((8 : Int) < l.length) = false := decide_eq_false (by omega)
  rw [hd] at HU
  have Hs := Lib.hid hs
  clear hs
  clear hd
  go_enter Tryd.func52, Tryd.ntmps52
  go_wp2_with fail
  refine (HU.out _).mono ?_
  rintro e w1 ⟨rfl, rfl⟩
  go_wp2_with fail
  go_loopg [9, 10] l.length (fun g _ _ wx => ∃ i : Nat, i + g = l.length ∧ Hid (wx.heap[w1.heap.size]? = some (.stringIter ⟨l.toArray⟩ i)) ∧ Hid ((l.take i).any sepB = false) ∧ Below w1.heap.size w1 wx)
  case atStart => exact ⟨0, by omega, Lib.hid (World.iter_heap w1 _ _), Lib.hid (by simp), bBox w1 _⟩
  case round =>
    obtain ⟨i, hig, HK, HN, hbr⟩ := hrel
    by_cases hi : i < l.length
    · have hR := rune_of l i hi
      have hnx := fun ty => next_any (P := Tryd.prog) wr w1.heap.size ⟨l.toArray⟩ i ty HK.out (by rw [Hs.out]; exact hi)
      generalize (Utf8.decode ⟨l.toArray⟩ i).1 = r at hR hnx
      generalize (Utf8.decode ⟨l.toArray⟩ i).2 = n at hR hnx
      have hklt : w1.heap.size < wr.heap.size := (Array.getElem?_eq_some_iff.1 HK.out).1
      have HP := Lib.hid (show (wr.putObj w1.heap.size (.stringIter ⟨l.toArray⟩ (i + n))).heap[w1.heap.size]? = some (.stringIter ⟨l.toArray⟩ (i + n)) from World.putObj_heap_same hklt)
      have hb2 : Below w1.heap.size w1 (wr.putObj w1.heap.size (.stringIter ⟨l.toArray⟩ (i + n))) := hbr.grown (grownBy_putObj' wr w1.heap.size _) (by omega) (fun k e => by injection e; omega)
      generalize wr.putObj w1.heap.size (.stringIter ⟨l.toArray⟩ (i + n)) = W2 at hnx HP hb2
      have hn1 := hR.pos1
      have hnl := hR.le
      by_cases ha : l[i].toNat < 128
      · obtain ⟨hr, rfl⟩ := hR.ascii hi ha
        have hmem : l[i] ∈ l := List.getElem_mem hi
        have hst : (l.take (i + 1)).any sepB = sepB l[i] := by rw [List.take_add_one, List.any_append, HN.out]; simp [hi]
        have HI := Lib.hid (fun w' => Tryd.strings_IndexRune_ascii ⟨#[59, 35, 10]⟩ r w' (by omega) (by omega))
        have hix : decide (0 ≤ Lib.indexByte [59, 35, 10] (r : Int).toNat.toUInt8) = sepB l[i] := by
          rw [show ((r : Int)).toNat.toUInt8 = l[i] by rw [hr]; simp, ← Lib.contains_iff_indexByte]
          simp only [List.contains_cons, List.contains_nil, Bool.or_false, sepB, Bool.or_assoc]
        rw [show (ByteArray.mk #[59, 35, 10]).data.toList = [59, 35, 10] from rfl] at HI
        generalize Lib.indexByte [59, 35, 10] (r : Int).toNat.toUInt8 = ix at HI hix
        cases hsp : sepB l[i] with
        | true =>
          rw [hsp] at hix
          have hany : l.any sepB = true := List.any_eq_true.2 ⟨_, hmem, hsp⟩
          have Hr := Lib.hid hr
          have Hst := Lib.hid hst
          have Hmem := Lib.hid hmem
          have Hsp := Lib.hid hsp
          have Hany := Lib.hid hany
          have Hig := Lib.hid hig
          clear hr hst hmem hsp hany hig
          go_wp2_with fail
          refine (HI.out _).mono ?_
          rintro e w5 ⟨rfl, rfl⟩
          go_wp2_with fail
          go_ret
          exact ⟨⟨i, rfl, by rw [Hany.out]; simp⟩, hb2⟩
        | false =>
          rw [hsp] at hix hst
          have Hr := Lib.hid hr
          have Hst := Lib.hid hst
          have Hmem := Lib.hid hmem
          have Hsp := Lib.hid hsp
          clear hr hst hmem hsp
          go_wp2_with fail
          refine (HI.out _).mono ?_
          rintro e w5 ⟨rfl, rfl⟩
          go_wp2_with fail
          go_roundg (gk - 1)
          case measure => omega
          case rel => exact ⟨i + 1, by omega, HP, Lib.hid Hst.out, hb2⟩
      · obtain ⟨hr1, hr2, hall⟩ := hR.big hi (by omega)
        have HI := Lib.hid (fun w' => idxRune r w' (by omega) (by omega))
        have hst := take_big (n := n) HN.out hall
        have Hst := Lib.hid hst
        have Hall := Lib.hid hall
        clear hst hall
        go_wp2_with fail
        refine (HI.out _).mono ?_
        rintro e w5 ⟨rfl, hb5⟩
        go_wp2_with fail
        go_roundg (gk - n)
        case measure => omega
        case rel => exact ⟨i + n, by omega, Lib.hid ((hb5.block _ (Array.getElem?_eq_some_iff.1 HP.out).1).trans HP.out), Lib.hid Hst.out, hb2.trans (hb5.mono hb2.size)⟩
    · obtain rfl : i = l.length := by omega
      have hnx := fun ty => next_stop (P := Tryd.prog) wr w1.heap.size ⟨l.toArray⟩ l.length ty HK.out (by rw [Hs.out]; omega)
      have hst := HN.out
      rw [List.take_length] at hst
      have Hst := Lib.hid hst
      clear hst
      go_wp2_with fail
      go_ret
      exact ⟨⟨-1, rfl, by rw [Hst.out]; rfl⟩, hbr⟩
theorem idxAny (l : List UInt8) (w : World) (hl : l.length ≤ 65536) :
    Calls Tryd.prog 52 #[.string ⟨l.toArray⟩, .string ⟨#[59, 35, 10]⟩] w fun e w' => (∃ i, e = .returned (.int .i64 i) ∧ decide (0 ≤ i) = l.any sepB) ∧ Below w.heap.size w w' := by
  by_cases h8 : l.length ≤ 8
  · exact idxAnyShort l w h8
  · have hs : (ByteArray.mk l.toArray).size = l.length := by simp [ByteArray.size]
    refine (Any.strings_IndexAny_long Tryd.lays153 (zero_of_info info116).1 (zero_of_info info116).2 ⟨l.toArray⟩ ⟨#[59, 35, 10]⟩ w (by decide) (by rw [hs]; omega) (by rw [hs]; omega) (by decide) ?_).mono ?_
    · intro j b hb
      have : b ∈ [(59 : UInt8), 35, 10] := List.mem_of_getElem? hb
      simp at this
      rcases this with rfl | rfl | rfl <;> decide
    · rintro e w' ⟨rfl, rfl⟩
      exact ⟨⟨_, rfl, any_sep l⟩, bUp (bBox w _) (bBox _ _)⟩
set_option maxHeartbeats 2000000 in
theorem anyAll {f : List UInt8} (hl : f.length ≤ 65536) : AnyOk f := by
  intro w
  have HI := Lib.hid (idxAny f w hl)
  go_enter Tryd.func33, Tryd.ntmps33
  go_wp2_with fail
  refine HI.out.mono ?_
  rintro e w1 ⟨⟨i, rfl, hi⟩, hb1⟩
  have Hi := Lib.hid hi
  clear hi
  go_wp2_with fail
  go_ret
  exact ⟨by rw [← Hi.out]; rfl, hb1⟩
end Go.Proofs.YtafmdeipcepaiaaDoor
