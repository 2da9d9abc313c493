/- strconv.AppendInt of a number that is not negative, onto a row of bytes; line -/
import Derived.Test.YthogkokifiibnaaDoorApp
import Derived.Test.YthogkokifiibnaaDoorEl12
import Derived.Test.YthogkokifiibnaaDoorElP5
import Derived.Lib.ItoaWalk
import Derived.Lib.ItoaLen
namespace Go.Proofs.YthogkokifiibnaaDoor
open Go.RowKit Go.Sort

/-- what a function gives back that appends to a row of bytes -/
def BytesOut (base : Nat) (l : List UInt8) (w : World) (e : Ending) (w' : World) : Prop := ∃ v', e = .returned v' ∧ OwnB w' base v' l ∧ Below base w w'
theorem OwnB.grow {w : World} {base : Nat} {v : Value} {l : List UInt8} (h : OwnB w base v l) (k : Nat) (os : Array Obj) : OwnB (grow (w.drewN k) os) base v l := h.keep (Lib.below_grow _ _ (Nat.le_refl _) k os)

set_option maxHeartbeats 6400000 in
set_option maxRecDepth 100000 in
theorem appSmall (l : List UInt8) (B u : Nat) (hu : u < 100) (sv : Value) (w : World) (hown : OwnB w B sv l) (hBw : B ≤ w.heap.size) (hlim : l.length ≤ 500000) :
    Calls Tryd.prog 58 #[sv, .int .u64 u, .int .i64 10] w (BytesOut B (l ++ Lib.decDigits u) w) := by
  have hlen : (Lib.decDigits u).length ≤ 20 := by
    rw [Lib.decDigits_length]
    by_cases h10 : u < 10
    · rw [Lib.nDigits_small h10]; omega
    · rw [Lib.nDigits_big h10, Lib.nDigits_small (show u / 10 < 10 by omega)]; omega
  have HS := Lib.hid (fun w' => Tryd.internal_strconv_small u hu w')
  generalize Lib.decDigits u = dg at HS hlen
  have hui : (u : Int) < 100 := by omega
  go_enter Tryd.func58, Tryd.ntmps58
  go_wp2_with fail
  refine (HS.out _).mono ?_
  rintro e w1 ⟨rfl, rfl⟩
  go_wp2_with (at_builtin; refine wpBS rfl _ _ rfl B rfl hown dg rfl ?c1 ?c2 ?_)
  case c1 => omega
  case c2 => omega
  intro v' w2 HO hb2
  go_wp2_with fail
  go_ret
  exact ⟨v', rfl, HO.out, hb2 _ (Below.refl _ _)⟩

set_option maxHeartbeats 12800000 in
set_option maxRecDepth 100000 in
theorem appBig (l : List UInt8) (B u : Nat) (hu : 100 ≤ u) (hu64 : u < 18446744073709551616) (sv : Value) (w : World) (hown : OwnB w B sv l) (hBw : B ≤ w.heap.size) (hlim : l.length ≤ 500000)
    (htab : Lib.TabIs Tryd.prog w "internal/strconv.uint64pow10" .u64 Lib.pow10Tab) :
    Calls Tryd.prog 58 #[sv, .int .u64 u, .int .i64 10] w (BytesOut B (l ++ Lib.decDigits u) w) := by
  have hu1 : 1 ≤ u := by omega
  have hnd20 : Lib.nDigits u ≤ 20 := by have := Lib.numDigits_eq u hu1 hu64; split at this <;> omega
  have hal : Tryd.prog.arrayLen 118 = 24 := by kernel_rfl
  have hsl : ∀ W, (Instr.sliceAt 118 (.pointer (some ⟨w.heap.size, 0, none⟩)) none (some (.int .i64 (Lib.nDigits u : Int))) none).run Tryd.prog W = .ok (.slice (some ⟨w.heap.size, 0, none⟩) (Lib.nDigits u) 24) W := fun W => by
    rw [run_sliceAt_array_h W 118 ⟨w.heap.size, 0, none⟩ (by kernel_rfl) .i64 (Lib.nDigits u : Int) (by omega) (by rw [hal]; omega)]
    rw [hal]
    go_simp
  have hH0 := Lib.holds_zero0 w 118 (Lib.nDigits u) (by omega)
  have hfmt := Tryd.internal_strconv_formatBase10 w.heap.size 0 24 u (Array.replicate (Lib.nDigits u) 0) (w.alloc (.cells Lib.zeros24 118)) hH0 (by rw [Array.size_replicate]; exact Lib.lt_pow_nDigits u) hu64 (by rw [Array.size_replicate]; omega)
  rw [Array.size_replicate] at hfmt
  have HND := Lib.hid (fun w' h => Tryd.internal_strconv_numDigits u hu1 hu64 w' h)
  have HH0 := Lib.hid hH0
  have HF := Lib.hid hfmt
  have HO := Lib.hid hown
  have iu : (100 : Int) ≤ (u : Int) := by omega
  clear hH0 hal hfmt hown
  go_enter Tryd.func58, Tryd.ntmps58
  go_wp2_with fail
  refine (HND.out _ (Lib.tabIs_alloc htab _)).mono ?_
  rintro e w1 ⟨rfl, rfl⟩
  go_wp2_with fail
  refine HF.out.mono ?_
  rintro e w' ⟨rfl, k, v', dk, rfl, hF⟩
  have hcells : ∀ j u', (Lib.byteCells (Lib.decDigits u))[j]? = some u' → ((putRow (fun (b : UInt8) => Value.int .u8 (b.toNat : Int)) (w.alloc (.cells Lib.zeros24 118)) w.heap.size 0 dk).drewN k).cell? ((⟨w.heap.size, 0, none⟩ : Addr).add j) = some u' := by
    intro j u' hj
    have hjl : j < (Lib.decDigits u).length := by
      have h5 := (List.getElem?_eq_some_iff.1 hj).1
      rwa [Lib.byteCells_length] at h5
    have e5 : (Lib.byteCells (Lib.decDigits u))[j]? = some (Value.int .u8 ((Lib.decDigits u)[j].toNat : Int)) := by simp [Lib.byteCells, hjl]
    rw [e5] at hj
    cases hj
    rw [Lib.row_is_numeral hF j hjl, Lib.add_plain, World.cell?_drewN]
    exact cell?_putRow (fun (b : UInt8) => Value.int .u8 (b.toNat : Int)) _ w.heap.size 0 _ dk HH0.out (by rw [hF.size, Array.size_replicate]) j (by rw [hF.size]; rw [Lib.decDigits_length] at hjl; exact hjl)
  obtain ⟨os, eo⟩ := Lib.fin_at w (.cells Lib.zeros24 118) dk k 0
  have hb2 : Below w.heap.size w ((putRow (fun (b : UInt8) => Value.int .u8 (b.toNat : Int)) (w.alloc (.cells Lib.zeros24 118)) w.heap.size 0 dk).drewN k) := by rw [eo]; exact Lib.below_grow _ _ (Nat.le_refl _) k os
  generalize (putRow (fun (b : UInt8) => Value.int .u8 (b.toNat : Int)) (w.alloc (.cells Lib.zeros24 118)) w.heap.size 0 dk).drewN k = W2 at hcells hb2 ⊢
  clear eo HH0 HF
  have hdl := Lib.decDigits_length u
  have Hc := Lib.hid hcells
  have hsz2 := hb2.size
  clear hcells
  rw [← hdl] at hsl hnd20 ⊢
  generalize hdg : Lib.decDigits u = dg at Hc hdl hsl hnd20 ⊢
  have Hdg := Lib.hid hdg
  clear hdl hdg
  go_wp2_with (at_builtin; refine wpB rfl _ _ rfl B rfl (HO.out.keep hb2) dg rfl Hc.out ?c1 ?c2 ?_)
  case c1 => omega
  case c2 => omega
  intro v2 w3 HO3 hb3
  go_wp2_with fail
  go_ret
  exact ⟨v2, rfl, by rw [Hdg.out]; exact HO3.out, hb3 w (hb2.mono hBw)⟩

theorem appUint (l : List UInt8) (B u : Nat) (hu64 : u < 18446744073709551616) (sv : Value) (w : World) (hown : OwnB w B sv l) (hBw : B ≤ w.heap.size) (hlim : l.length ≤ 500000)
    (htab : Lib.TabIs Tryd.prog w "internal/strconv.uint64pow10" .u64 Lib.pow10Tab) :
    Calls Tryd.prog 58 #[sv, .int .u64 u, .int .i64 10] w (BytesOut B (l ++ Lib.decDigits u) w) := by
  by_cases h : u < 100
  · exact appSmall l B u h sv w hown hBw hlim
  · exact appBig l B u (by omega) hu64 sv w hown hBw hlim htab

set_option maxHeartbeats 2000000 in
set_option maxRecDepth 100000 in
theorem appIntI (l : List UInt8) (B : Nat) (n : Int) (h0 : 0 ≤ n) (h1 : n ≤ 9223372036854775807) (sv : Value) (w : World) (hown : OwnB w B sv l) (hBw : B ≤ w.heap.size) (hlim : l.length ≤ 500000)
    (htab : Lib.TabIs Tryd.prog w "internal/strconv.uint64pow10" .u64 Lib.pow10Tab) :
    Calls Tryd.prog 46 #[sv, .int .i64 n, .int .i64 10] w (BytesOut B (l ++ Lib.itoa n) w) := by
  obtain ⟨u, rfl⟩ := Int.eq_ofNat_of_zero_le h0
  have HA := Lib.hid (appUint l B u (by omega) sv w hown hBw hlim htab)
  rw [itoa_dec h0, show ((u : Int)).toNat = u by simp]
  have hneg : ¬ (u : Int) < 0 := by omega
  have hwr : IntKind.u64.wrap (u : Int) = (u : Int) := by rw [IntKind.wrap_u64]; omega
  clear hown
  go_enter Tryd.func46, Tryd.ntmps46
  go_wp2_with fail
  refine HA.out.mono ?_
  rintro e w1 ⟨v', rfl, hO, hb⟩
  go_wp2_with fail
  go_ret
  exact ⟨v', rfl, hO, hb⟩

set_option maxHeartbeats 2000000 in
set_option maxRecDepth 100000 in
theorem appInt (l : List UInt8) (B : Nat) (n : Int) (h0 : 0 ≤ n) (h1 : n ≤ 9223372036854775807) (sv : Value) (w : World) (hown : OwnB w B sv l) (hBw : B ≤ w.heap.size) (hlim : l.length ≤ 500000)
    (htab : Lib.TabIs Tryd.prog w "internal/strconv.uint64pow10" .u64 Lib.pow10Tab) :
    Calls Tryd.prog 35 #[sv, .int .i64 n, .int .i64 10] w (BytesOut B (l ++ Lib.itoa n) w) := by
  have HA := Lib.hid (appIntI l B n h0 h1 sv w hown hBw hlim htab)
  clear hown
  go_enter Tryd.func35, Tryd.ntmps35
  go_wp2_with fail
  refine HA.out.mono ?_
  rintro e w1 ⟨v', rfl, hO, hb⟩
  go_wp2_with fail
  go_ret
  exact ⟨v', rfl, hO, hb⟩
end Go.Proofs.YthogkokifiibnaaDoor
