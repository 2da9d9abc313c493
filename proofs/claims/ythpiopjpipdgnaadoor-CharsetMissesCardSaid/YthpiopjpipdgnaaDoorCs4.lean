/- charset: writer.put, writer.escape -/
import Derived.Test.YthpiopjpipdgnaaDoorCs3
import Derived.Test.YthpiopjpipdgnaaDoorBld
import Derived.Test.YthpiopjpipdgnaaDoorCp4
namespace Go.Proofs.YthpiopjpipdgnaaDoor
open Go.RowKit Go.Sort

theorem bldTyW : BldTy 59 3 := ⟨by kernel_rfl, by decide, by decide⟩
theorem zeroByte (w : World) : (zeroValue 5).run Tryd.prog w = .ok (.int .u8 0) w := by kernel_rfl

/-- the byte of a small number -/
def ub (c : Int) : UInt8 := UInt8.ofNat c.toNat
theorem ub_toNat {c : Int} (h0 : 0 ≤ c) (h1 : c ≤ 255) : ((ub c).toNat : Int) = c := by
  unfold ub
  rw [UInt8.toNat_ofNat', Nat.mod_eq_of_lt (show c.toNat < 2 ^ 8 by omega)]
  omega
/-- what put writes -/
def putL (f : Int → Option Int) (x : Int) : List UInt8 := match f x with | some c => [ub c] | none => []
theorem putL_le (f : Int → Option Int) (x : Int) : (putL f x).length ≤ 1 := by unfold putL; split <;> simp

/-- the writer's state: its buffer holds l, its map (block bm, below b) holds f, whose values are bytes -/
structure Wr (b bm : Nat) (f : Int → Option Int) (l : List UInt8) (w : World) : Prop where
  bld : Bld 59 [.map (some bm)] b l w
  map : ByteMap Tryd.prog 3 5 w bm 256 f
  lt : bm < b
  byte : ∀ x c, f x = some c → 0 ≤ c ∧ c ≤ 255

theorem Wr.next {b bm : Nat} {f : Int → Option Int} {l l' : List UInt8} {w w' : World} (h : Wr b bm f l w) (hb : Bld 59 [.map (some bm)] b l' w') (hbel : Below b w w') : Wr b bm f l' w' :=
  ⟨hb, h.map.keep (hbel.block bm h.lt), h.lt, h.byte⟩

set_option maxRecDepth 100000 in
theorem wrPut {b bm : Nat} {f : Int → Option Int} {l : List UInt8} {w : World} (h : Wr b bm f l w) (x : Int) (hx : (Lit.int .i64 x).wf = true) (hlen : l.length ≤ 1000000000) :
    Calls Tryd.prog 32 #[.pointer (some ⟨b, 0, none⟩), .int .i64 x] w fun e w' => e = .returned (.bool (f x).isSome) ∧ Wr b bm f (l ++ putL f x) w' ∧ Below b w w' := by
  have hlook := h.map.look (t := 52) Tryd.underlying3 Tryd.underlying52 Tryd.underlying5 (zeroByte w) hx
  obtain ⟨p, v, hp, hbk, hown, hne, hn⟩ := h.bld
  obtain ⟨c0, c1, fz, ct, hsh⟩ := bld_cell hbk
  have c2 : w.cell? ⟨b, 2, none⟩ = some (.map (some bm)) := ct 0 _ rfl
  clear hp hbk hown hne hn c0 c1 fz ct hsh
  have H := Lib.hid h
  have Hx := Lib.hid hx
  clear h hx
  cases hf : f x with
  | none =>
    rw [hf] at hlook
    have Hf := Lib.hid hf
    clear hf
    go_enter Tryd.func32, Tryd.ntmps32
    go_wp2
    go_ret
    exact ⟨rfl, by rw [show putL f x = [] by simp [putL, Hf.out], List.append_nil]; exact H.out, Below.refl _ _⟩
  | some c =>
    rw [hf] at hlook
    obtain ⟨h0, h1⟩ := H.out.byte x c hf
    have hub := ub_toNat h0 h1
    have Hw := Lib.hid (writeByte bldTyW H.out.bld (ub c) hlen)
    rw [hub] at Hw
    have Hf := Lib.hid hf
    have Hub := Lib.hid hub
    clear hf hub
    go_enter Tryd.func32, Tryd.ntmps32
    go_wp2_with fail
    refine Hw.out.mono ?_
    rintro e w1 ⟨rfl, hb1, hbel⟩
    have HB := Lib.hid (H.out.next hb1 hbel)
    clear hb1 Hw
    go_wp2_with fail
    go_ret
    exact ⟨rfl, by rw [show putL f x = [ub c] by simp [putL, Hf.out]]; exact HB.out, hbel⟩

theorem Wr.keep {b bm : Nat} {f : Int → Option Int} {l : List UInt8} {w w' : World} (h : Wr b bm f l w) (hb : Below w.heap.size w w') : Wr b bm f l w' :=
  ⟨h.bld.keep hb, h.map.grow hb, h.lt, h.byte⟩
theorem Dig.keepB {w w' : World} {b : Nat} (h : Dig w) (hb : Below b w w') (h0 : 0 < b) : Dig w' :=
  fun j hj => (hb.cell (p := ⟨0, j, none⟩) h0).trans (h j hj)
/-- the escape of a number -/
def escL (x : Int) : List UInt8 := [92, 117, 123] ++ hexL x ++ [125]
theorem escL_le (x : Int) : (escL x).length ≤ 10 := by have := hexL_length_le x; simp [escL]; omega
/-- what put writes for each byte of a text -/
def putsL (f : Int → Option Int) (t : List UInt8) : List UInt8 := t.flatMap fun b => putL f (b.toNat : Int)
theorem putsL_snoc (f : Int → Option Int) (t : List UInt8) {k : Nat} (hk : k < t.length) : putsL f (t.take (k + 1)) = putsL f (t.take k) ++ putL f (btN t k) := by
  rw [List.take_succ_eq_append_getElem hk, btN_get hk]; unfold putsL; rw [List.flatMap_append]; simp
theorem putsL_le (f : Int → Option Int) : ∀ t : List UInt8, (putsL f t).length ≤ t.length
  | [] => by simp [putsL]
  | b :: r => by
    have h1 := putL_le f (b.toNat : Int)
    have h2 := putsL_le f r
    simp only [putsL, List.flatMap_cons, List.length_append, List.length_cons] at *
    omega

theorem esc_ba (x : Int) : (⟨#[92, 117, 123]⟩ : ByteArray) ++ ⟨(hexL x).toArray⟩ ++ ⟨#[125]⟩ = ⟨(escL x).toArray⟩ := by
  rw [show (⟨#[92, 117, 123]⟩ : ByteArray) = ⟨[92, 117, 123].toArray⟩ from rfl, show (⟨#[125]⟩ : ByteArray) = ⟨[125].toArray⟩ from rfl, ba_app, ba_app]; rfl
theorem esc_len (x : Int) : (3 : Int) + ((hexL x).length : Int) + 1 = ((escL x).length : Int) := by simp [escL]; omega

set_option maxRecDepth 100000 in
theorem wrEscape {b bm : Nat} {f : Int → Option Int} {l : List UInt8} {w : World} (h : Wr b bm f l w) (hD : Dig w) (_h0 : 0 < b) (x : Int) (hlen : l.length ≤ 900000000) :
    Calls Tryd.prog 33 #[.pointer (some ⟨b, 0, none⟩), .int .i64 x] w fun e w' => e = .returned (.tuple #[]) ∧ Wr b bm f (l ++ putsL f (escL x)) w' ∧ Below b w w' := by
  have H := Lib.hid h
  have HD := Lib.hid hD
  clear h hD
  have hle := escL_le x
  have hh := hexL_length_le x
  go_enter Tryd.func33, Tryd.ntmps33
  go_wp2_with fail
  refine (cpHex _ _ HD.out).mono ?_
  rintro e w1 ⟨rfl, hb1⟩
  go_wp2_with fail
  rw [esc_ba, esc_len]
  have HW := Lib.hid (H.out.keep hb1)
  have hb0 : Below b w w1 := hb1.mono (Nat.le_of_lt H.out.bld.lt)
  clear hh H hb1
  generalize ht : escL x = t at hle ⊢
  have Ht := Lib.hid ht
  clear ht
  go_loopw [12] (fun i wr => ∃ k : Nat, k ≤ t.length ∧ i = .int .i64 k ∧ Wr b bm f (l ++ putsL f (t.take k)) wr ∧ Below b w wr) (fun i _ => t.length - (intOf i).toNat)
  case atStart => exact ⟨0, Nat.zero_le _, rfl, by simpa [putsL] using HW.out, hb0⟩
  case round =>
    obtain ⟨k, hk, rfl, hwr, hbel⟩ := hrel
    by_cases hlt : k < t.length
    · have hbt := btN_lt t k
      have hle1 := putsL_le f (t.take k)
      have hle2 := List.length_take_le k t
      have Hp := Lib.hid (wrPut hwr (btN t k) (wfI (by omega) (by omega)) (by rw [List.length_append]; omega))
      have HS := Lib.hid (putsL_snoc f t hlt)
      have Hwr := Lib.hid hwr
      clear hwr
      go_wp2_with fail
      refine Hp.out.mono ?_
      rintro e w2 ⟨rfl, hw2, hb2⟩
      rw [List.append_assoc, ← HS.out] at hw2
      have HW2 := Lib.hid hw2
      clear hw2 Hp HS
      go_wp2_with fail
      go_roundw
      case rel => exact ⟨k + 1, by omega, by go_num, HW2.out, hbel.trans hb2⟩
      case measure => simp [intOf]; omega
    · have Hwr := Lib.hid hwr
      clear hwr
      go_wp2_with fail
      go_end0
      refine ⟨rfl, ?_, hbel⟩
      have := Hwr.out
      rwa [List.take_of_length_le (by omega), ← Ht.out] at this
end Go.Proofs.YthpiopjpipdgnaaDoor
