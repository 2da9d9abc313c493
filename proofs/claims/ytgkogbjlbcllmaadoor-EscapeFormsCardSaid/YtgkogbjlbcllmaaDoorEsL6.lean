/- The law EscapeForms -/
import Derived.Test.YtgkogbjlbcllmaaDoorEsL5
import Derived.Test.YtgkogbjlbcllmaaDoorBld
namespace Go.Proofs.YtgkogbjlbcllmaaDoor
open Go.RowKit Go.Sort

/-- digits of a code, upper case -/
def HexNum (l : List UInt8) (x : Int) : Prop := (∀ b ∈ l, ∃ k, k < 16 ∧ b.toNat = hexC k) ∧ valD l 0 = x
/-- digits of a code -/
def DigNum (l : List UInt8) (x : Int) : Prop := Digits l ∧ valD l 0 = x
theorem HexNum.dig {l : List UInt8} {x : Int} (h : HexNum l x) : DigNum l x := ⟨hex_digits h.1, h.2⟩
theorem HexNum.zero {l : List UInt8} {x : Int} (h : HexNum l x) : HexNum (48 :: l) x :=
  ⟨fun b hb => by
    rcases List.mem_cons.1 hb with rfl | hb
    · exact ⟨0, by omega, rfl⟩
    · exact h.1 b hb, h.2⟩
def low (b : UInt8) : UInt8 := if 65 ≤ b.toNat then UInt8.ofNat (b.toNat + 32) else b
theorem low_nat {b : UInt8} (h : b.toNat ≤ 70) : (low b).toNat = if 65 ≤ b.toNat then b.toNat + 32 else b.toNat := by
  unfold low
  split
  · rw [UInt8.toNat_ofNat']; omega
  · rfl
theorem low_dig {b : UInt8} {k : Nat} (hk : k < 16) (h : b.toNat = hexC k) : digV (low b).toNat = digV b.toNat := by
  have h1 := hexC_le k hk
  have h2 := hexC_is k
  rw [low_nat (by omega)]
  have h3 := digV_is (b.toNat : Int)
  split
  · have h4 := digV_is ((b.toNat + 32 : Nat) : Int)
    omega
  · rfl
theorem valD_low : ∀ (l : List UInt8) (c : Int), (∀ b ∈ l, ∃ k, k < 16 ∧ b.toNat = hexC k) → valD (l.map low) c = valD l c
  | [], _, _ => rfl
  | b :: r, c, h => by
    obtain ⟨k, hk, e⟩ := h b (by simp)
    rw [List.map_cons, valD, valD, low_dig hk e, valD_low r _ (fun x hx => h x (by simp [hx]))]
theorem HexNum.low {l : List UInt8} {x : Int} (h : HexNum l x) : DigNum (l.map low) x := by
  refine ⟨fun b hb => ?_, by rw [valD_low l 0 h.1]; exact h.2⟩
  obtain ⟨a, ha, rfl⟩ := List.mem_map.1 hb
  obtain ⟨k, hk, e⟩ := h.1 a ha
  rw [low_dig hk e, e, digV_hexC k hk]
  omega

section
variable {l : List UInt8} {x : Int}
theorem form_esc (h : DigNum l x) (h1 : 1 ≤ l.length) (h6 : l.length ≤ 6) (hx : x ≤ 1114111) (r : List UInt8) (acc : List Int) : scanS (92 :: 117 :: 123 :: (l ++ 125 :: r)) 1 0 acc = scanS r (l.length + 5) 0 (acc ++ [x]) := by
  have he : escR (92 :: 117 :: 123 :: (l ++ 125 :: r)) = (x, ((l.length + 4 : Nat) : Int), true) := by
    rw [escR_brace, escHex_all _ _ _ _ h.1 (by omega) (by omega) (by omega) (by rw [h.2]; exact hx), h.2, Nat.zero_add]
  rw [scanS, if_neg (by decide), if_neg (by decide), if_neg (by decide), he, if_neg (by dsimp only; omega), if_neg (by simp)]
  dsimp only
  rw [Int.toNat_natCast, scanS_skip _ _ _ _ (by simp)]
  congr 1
  · have : l.length + 4 - 1 = ([117, 123] ++ l ++ [125]).length := by simp
    rw [this, show (117 :: 123 :: (l ++ 125 :: r)) = ([117, 123] ++ l ++ [125]) ++ r by simp, List.drop_left]
  · omega
theorem form_head (t : List UInt8) (ht : t.length ≤ 1000) : parseE (34 :: t) = scanS t 1 0 [] := by
  rw [parseE, if_neg (by simp; omega), if_neg (by simp [btN])]
  rfl
theorem form1 (h : DigNum l x) (h1 : 1 ≤ l.length) (h6 : l.length ≤ 6) (hx : x ≤ 1114111) : parseE ([34, 92, 117, 123] ++ l ++ [125, 34]) = ([x], 0, 0) := by
  have e : [34, 92, 117, 123] ++ l ++ [125, 34] = 34 :: 92 :: 117 :: 123 :: (l ++ 125 :: [34]) := by simp
  rw [e, form_head _ (by simp; omega), form_esc h h1 h6 hx]
  rfl
theorem form2 (h : DigNum l x) (h1 : 1 ≤ l.length) (h6 : l.length ≤ 6) (hx : x ≤ 1114111) : parseE ([34, 92, 117, 123] ++ l ++ [125]) = ([], 3, (l.length : Int) + 5) := by
  have e : [34, 92, 117, 123] ++ l ++ [125] = 34 :: 92 :: 117 :: 123 :: (l ++ 125 :: []) := by simp
  rw [e, form_head _ (by simp; omega), form_esc h h1 h6 hx]
  rfl
theorem form3 (h : DigNum l x) (h6 : l.length ≤ 6) (hx : x ≤ 1114111) : parseE ([34, 92, 117, 123] ++ l ++ [59, 125, 34]) = ([], 3, 1) := by
  have e : [34, 92, 117, 123] ++ l ++ [59, 125, 34] = 34 :: 92 :: 117 :: 123 :: (l ++ 59 :: [125, 34]) := by simp
  have he : escR (92 :: 117 :: 123 :: (l ++ 59 :: [125, 34])) = (0, 0, false) := by
    rw [escR_brace, escHex_bad _ _ _ _ _ h.1 (by omega) (by omega) (by rw [h.2]; exact hx) (by decide) (by decide)]
  rw [e, form_head _ (by simp; omega), scanS, if_neg (by decide), if_neg (by decide), if_neg (by decide), he, if_pos rfl]
  rfl
theorem form_ba (l b : List UInt8) : (⟨#[34, 92, 117, 123]⟩ : ByteArray) ++ ⟨l.toArray⟩ ++ ⟨b.toArray⟩ = ⟨([34, 92, 117, 123] ++ l ++ b).toArray⟩ := by
  have h1 : (⟨#[34, 92, 117, 123]⟩ : ByteArray) ++ ⟨l.toArray⟩ = ⟨([34, 92, 117, 123] ++ l).toArray⟩ := ba_app [34, 92, 117, 123] l
  rw [h1]
  exact ba_app _ b
end

/-- a slice of bytes of the call's own -/
def OwnB (w : World) (base : Nat) (v : Value) (l : List UInt8) : Prop := w.ownsRow base 5 1 v l.length (Lib.byteCells l)
theorem OwnB.nil (w : World) (base : Nat) : OwnB w base (.slice none 0 0) [] := ⟨by simp [Lib.byteCells], .inl ⟨rfl, by simp⟩⟩
theorem wpB {ops : Array Oper} {rest : List Oper} {o : Oper} {a : Act} {Q : Exit → Act → World → Prop} {W : World} (hgd : o.guard = none) (s x : Operand) (ho : o.op = .call { callee := .builtin .append, args := #[s, x], argTypes := #[34, 34] })
    (base : Nat) {v : Value} {l : List UInt8} (hs : a.eval s = v) (h : OwnB W base v l) (c : UInt8) {n : Int} (hn : (c.toNat : Int) = n) (hx : a.eval x = .slice (some ⟨W.heap.size, 0, none⟩) 1 1) (hl : l.length + 1 ≤ 1000000) (hb : base ≤ W.heap.size)
    (hK : ∀ v' w', Hid (OwnB w' base v' (l ++ [c])) → (∀ w0, Below base w0 W → Below base w0 w') → wpList Tryd.prog ops Q rest (a.put o.dst v') w') : wpList Tryd.prog ops Q (o :: rest) a (W.alloc (.cells #[.int .u8 n] 5)) := by
  subst hn
  obtain ⟨i0, hi, hz0, hz1, hz2⟩ := info_parts infoByte
  have hk : (W.alloc (.cells #[.int .u8 c.toNat] 5)).ownsRow base 5 1 v l.length (Lib.byteCells l) := World.ownsRow.alloc h _
  refine wpList_append_own _ hgd s x 34 ho base 5 i0 (.int .u8 0) 1 1 Tryd.underlying34 hi hz0 hz1 hz2 rfl (by decide) v l.length (Lib.byteCells l) hs hk ⟨W.heap.size, 0, none⟩ 1 1 [.int .u8 c.toNat] hx rfl
    (fun i u hj => by match i, hj with | 0, hj => simp at hj; subst hj; simp [Addr.add]) (fun u hu => by simp at hu; subst hu; rfl) (by unfold maxLen; omega) (by omega) (by simp; omega) ?_
  intro v' w' hown' hg _
  refine hK v' w' (Lib.hid ?_) (fun w0 h0 => ?_)
  · unfold OwnB
    rw [List.length_append, ← byteCells_snoc]
    exact hown'
  · exact (h0.alloc hb _).grown hg (by simp; omega) (fun k hk => (World.ownsRow.lt h k hk).1)
theorem OwnB.conv {w : World} {base : Nat} {v : Value} {l : List UInt8} (h : OwnB w base v l) (h0 : 0 < l.length) : ∃ A c, v = .slice A l.length c ∧ (convert 34 9 (.slice A l.length c)).run Tryd.prog w = .ok (.string ⟨l.toArray⟩) w := by
  rcases h.2 with ⟨_, hz⟩ | ⟨g, cap, cur, rfl, _⟩
  · omega
  · refine ⟨_, _, rfl, ?_⟩
    refine run_convert_bytes_back (P := Tryd.prog) w 34 9 5 ⟨g, 0, none⟩ cap l Tryd.underlying34 Tryd.underlying5 Tryd.underlying9 (fun j hj => ?_)
    exact World.ownsRow.cells h (g := g) rfl j (.int .u8 l[j].toNat) (by simp [Lib.byteCells, hj])
theorem low_step {l : List UInt8} {k : Nat} (hk : k < l.length) : (l.take (k + 1)).map low = (l.take k).map low ++ [low l[k]] := by
  rw [List.take_succ_eq_append_getElem hk, List.map_append]
  rfl

theorem form_ba1 (l : List UInt8) : (⟨#[34, 92, 117, 123]⟩ : ByteArray) ++ ⟨l.toArray⟩ ++ ⟨#[125, 34]⟩ = ⟨([34, 92, 117, 123] ++ l ++ [125, 34]).toArray⟩ := form_ba l [125, 34]
theorem form_ba2 (l : List UInt8) : (⟨#[34, 92, 117, 123]⟩ : ByteArray) ++ ⟨l.toArray⟩ ++ ⟨#[125]⟩ = ⟨([34, 92, 117, 123] ++ l ++ [125]).toArray⟩ := form_ba l [125]
theorem form_ba3 (l : List UInt8) : (⟨#[34, 92, 117, 123]⟩ : ByteArray) ++ ⟨l.toArray⟩ ++ ⟨#[59, 125, 34]⟩ = ⟨([34, 92, 117, 123] ++ l ++ [59, 125, 34]).toArray⟩ := form_ba l [59, 125, 34]
theorem zero_ba (l : List UInt8) : (⟨#[48]⟩ : ByteArray) ++ ⟨l.toArray⟩ = ⟨(48 :: l).toArray⟩ := ba_app [48] l

set_option maxHeartbeats 8000000 in
set_option maxRecDepth 100000 in
theorem lawFormsF (c z : Int) (w : World) (hc0 : 0 ≤ c) (hc1 : c ≤ 4294967295) (hz0 : 0 ≤ z) (hz1 : z ≤ 255) (hE : Env w) :
    Calls Tryd.prog 7 #[.int .u32 c, .int .u8 z, .bool false] w fun e w' => e = .returned (.bool true) ∧ Below w.heap.size w w' := by
  have hm0 : 0 ≤ c % 1114112 := by omega
  have hm1 : c % 1114112 ≤ 1114111 := by omega
  have hv : validB (c % 1114112) = true := decide_eq_true ⟨hm0, hm1⟩
  have hHN : HexNum (hexL (c % 1114112)) (c % 1114112) := ⟨hexL_digit _, valD_hexL hv⟩
  have hl6 := hexL_length_le (c % 1114112)
  have hl4 : 4 ≤ (hexL (c % 1114112)).length := by
    obtain ⟨n, e, hn, e2⟩ := hexL_yes hv
    rw [e2, hexN_length]
    exact (hexLen_ok n hn).1
  have HE := Lib.hid hE
  have HHN := Lib.hid hHN
  clear hE hHN
  clear hv
  go_enter Tryd.func7, Tryd.ntmps7
  go_wp2_with fail
  refine (rfHex (c % 1114112) _).mono ?_
  rintro e w1 ⟨rfl, rfl⟩
  generalize c % 1114112 = x at HHN hl4 hl6 hm0 hm1 ⊢
  generalize hexL x = l0 at HHN hl4 hl6 ⊢
  go_wp2_with fail
  go_loop [1, 8] (fun z s => ∃ (l : List UInt8) (n : Int), 0 ≤ n ∧ n ≤ 255 ∧ z = .int .u8 n ∧ s = .string ⟨l.toArray⟩ ∧ 4 ≤ l.length ∧ l.length ≤ 6 ∧ Hid (HexNum l x)) (fun z _ => (intOf z).toNat)
  case atStart => exact ⟨l0, z, hz0, hz1, rfl, rfl, hl4, hl6, HHN⟩
  case round =>
    obtain ⟨l, n, hn0, hn1, rfl, rfl, h4, h6, HH⟩ := hrel
    by_cases hr : l.length < 6 ∧ 0 < n
    · obtain ⟨hr1, hr2⟩ := hr
      have p1 : decide ((l.length : Int) < 6) = true := by simp; omega
      have p2 : decide (0 < n) = true := by simpa using hr2
      go_wp2_with fail
      go_round
      case rel => exact ⟨48 :: l, n - 1, by omega, by omega, rfl, by rw [zero_ba], by simp; omega, by simp; omega, Lib.hid HH.out.zero⟩
      case measure => simp [intOf]; omega
    · have hrr : (¬ l.length < 6) ∨ (l.length < 6 ∧ n ≤ 0) := by omega
      clear hr
      have HD0 := Lib.hid HH.out.dig
      rcases hrr with hr | ⟨hr, hn⟩
      · have p1 : decide ((l.length : Int) < 6) = false := by simp; omega
        have k1 := fun w' => esParsed (l := [34, 92, 117, 123] ++ l ++ [125, 34]) w' (by simp; omega) (form1 HD0.out (by omega) (by omega) hm1)
        have k2 := fun w' => esParsed (l := [34, 92, 117, 123] ++ l ++ [125]) w' (by simp; omega) (form2 HD0.out (by omega) (by omega) hm1)
        have k3 := fun w' => esParsed (l := [34, 92, 117, 123] ++ l ++ [59, 125, 34]) w' (by simp; omega) (form3 HD0.out (by omega) hm1)
        have q1 := eqFaultSame 0 0
        have q2 := eqFaultSame 3 ((l.length : Int) + 5)
        have q3 := eqFaultSame 3 1
        have K1 := Lib.hid k1
        have K2 := Lib.hid k2
        have K3 := Lib.hid k3
        clear k1 k2 k3
        go_wp2_with fail
        rw [form_ba1]
        refine (K1.out _).mono ?_
        rintro e w2 ⟨⟨A1, c1, rfl, hA1⟩, hb2⟩
        have HA1 := Lib.hid hA1
        clear hA1
        have hw2 : Below w.heap.size w w2 := bUp (Below.refl _ w) hb2
        go_wp2_with fail
        rw [form_ba2]
        refine (K2.out _).mono ?_
        rintro e w3 ⟨⟨A2, c2, rfl, _⟩, hb3⟩
        have B1 := Lib.hid ((Blk.new w2 #[.int .i64 0, .int .i64 0] 36).keep hb3)
        have hw3 : Below w.heap.size w w3 := bUp (bUp hw2 (bBox _ _)) hb3
        have y3 := B1.out.lt
        go_wp2_with fail
        rw [form_ba3]
        refine (K3.out _).mono ?_
        rintro e w4 ⟨⟨A3, c3, rfl, _⟩, hb4⟩
        have B2 := Lib.hid ((B1.out.alloc (.cells #[.int .i64 3, .int .i64 ((l.length : Int) + 5)] 36)).keep hb4)
        have B3 := Lib.hid ((Blk.new w3 #[.int .i64 3, .int .i64 ((l.length : Int) + 5)] 36).keep hb4)
        have hw4 : Below w.heap.size w w4 := bUp (bUp hw3 (bBox _ _)) hb4
        have y4 := B2.out.lt
        have y5 := B3.out.lt
        have d0 := B2.out.cell 0
        have d1 := B2.out.cell 1
        have HA4 := Lib.hid ((((HA1.out.keep (bUp (bBox _ _) hb3)).keep (bUp (bBox _ _) hb4)).keep (bBox w4 (.cells #[.int .i64 3, .int .i64 1] 36))).keep (bBox _ (.cells (intVals [x]).toArray 3)))
        have HI4 := Lib.hid (ints_new (w4.alloc (.cells #[.int .i64 3, .int .i64 1] 36)) [x] 3)
        have n1 : w4.heap.size ≠ w2.heap.size := by omega
        have n2 : w4.heap.size ≠ w3.heap.size := by omega
        go_wp2_with fail
        refine (rfSame [x] A1 (some ⟨w4.heap.size + 1, 0, none⟩) c1 1 _ HA4.out (by have h := HI4.out; simpa using h) (by simp)).mono ?_
        rintro e w5 ⟨rfl, hb5⟩
        have B4 := ((B3.out.alloc (.cells #[.int .i64 3, .int .i64 1] 36)).alloc (.cells (intVals [x]).toArray 3)).keep hb5
        have B5 := ((Blk.new w4 #[.int .i64 3, .int .i64 1] 36).alloc (.cells (intVals [x]).toArray 3)).keep hb5
        have e0 := B4.cell 0
        have e1 := B4.cell 1
        have e2 := B5.cell 0
        have e3 := B5.cell 1
        have y6 := B4.lt
        have y7 := B5.lt
        have hw5 : Below w.heap.size w w5 := bUp (bUp (bUp hw4 (bBox _ _)) (bBox _ _)) hb5
        clear B4 B5 d0 d1
        go_wp2_with fail
        refine (alive05 _ (HE.out.keep hw5)).mono ?_
        rintro e w6 ⟨rfl, hb6⟩
        go_wp2_with fail
        go_ret
        exact ⟨rfl, bUp hw5 hb6⟩
      · have p1 : decide ((l.length : Int) < 6) = true := by simp; omega
        have k1 := fun w' => esParsed (l := [34, 92, 117, 123] ++ l ++ [125, 34]) w' (by simp; omega) (form1 HD0.out (by omega) (by omega) hm1)
        have k2 := fun w' => esParsed (l := [34, 92, 117, 123] ++ l ++ [125]) w' (by simp; omega) (form2 HD0.out (by omega) (by omega) hm1)
        have k3 := fun w' => esParsed (l := [34, 92, 117, 123] ++ l ++ [59, 125, 34]) w' (by simp; omega) (form3 HD0.out (by omega) hm1)
        have q1 := eqFaultSame 0 0
        have q2 := eqFaultSame 3 ((l.length : Int) + 5)
        have q3 := eqFaultSame 3 1
        have K1 := Lib.hid k1
        have K2 := Lib.hid k2
        have K3 := Lib.hid k3
        clear k1 k2 k3
        go_wp2_with fail
        rw [form_ba1]
        refine (K1.out _).mono ?_
        rintro e w2 ⟨⟨A1, c1, rfl, hA1⟩, hb2⟩
        have HA1 := Lib.hid hA1
        clear hA1
        have hw2 : Below w.heap.size w w2 := bUp (Below.refl _ w) hb2
        go_wp2_with fail
        rw [form_ba2]
        refine (K2.out _).mono ?_
        rintro e w3 ⟨⟨A2, c2, rfl, _⟩, hb3⟩
        have B1 := Lib.hid ((Blk.new w2 #[.int .i64 0, .int .i64 0] 36).keep hb3)
        have hw3 : Below w.heap.size w w3 := bUp (bUp hw2 (bBox _ _)) hb3
        have y3 := B1.out.lt
        go_wp2_with fail
        rw [form_ba3]
        refine (K3.out _).mono ?_
        rintro e w4 ⟨⟨A3, c3, rfl, _⟩, hb4⟩
        have B2 := Lib.hid ((B1.out.alloc (.cells #[.int .i64 3, .int .i64 ((l.length : Int) + 5)] 36)).keep hb4)
        have B3 := Lib.hid ((Blk.new w3 #[.int .i64 3, .int .i64 ((l.length : Int) + 5)] 36).keep hb4)
        have hw4 : Below w.heap.size w w4 := bUp (bUp hw3 (bBox _ _)) hb4
        have y4 := B2.out.lt
        have y5 := B3.out.lt
        have d0 := B2.out.cell 0
        have d1 := B2.out.cell 1
        have HA4 := Lib.hid ((((HA1.out.keep (bUp (bBox _ _) hb3)).keep (bUp (bBox _ _) hb4)).keep (bBox w4 (.cells #[.int .i64 3, .int .i64 1] 36))).keep (bBox _ (.cells (intVals [x]).toArray 3)))
        have HI4 := Lib.hid (ints_new (w4.alloc (.cells #[.int .i64 3, .int .i64 1] 36)) [x] 3)
        have n1 : w4.heap.size ≠ w2.heap.size := by omega
        have n2 : w4.heap.size ≠ w3.heap.size := by omega
        go_wp2_with fail
        refine (rfSame [x] A1 (some ⟨w4.heap.size + 1, 0, none⟩) c1 1 _ HA4.out (by have h := HI4.out; simpa using h) (by simp)).mono ?_
        rintro e w5 ⟨rfl, hb5⟩
        have B4 := ((B3.out.alloc (.cells #[.int .i64 3, .int .i64 1] 36)).alloc (.cells (intVals [x]).toArray 3)).keep hb5
        have B5 := ((Blk.new w4 #[.int .i64 3, .int .i64 1] 36).alloc (.cells (intVals [x]).toArray 3)).keep hb5
        have e0 := B4.cell 0
        have e1 := B4.cell 1
        have e2 := B5.cell 0
        have e3 := B5.cell 1
        have y6 := B4.lt
        have y7 := B5.lt
        have hw5 : Below w.heap.size w w5 := bUp (bUp (bUp hw4 (bBox _ _)) (bBox _ _)) hb5
        clear B4 B5 d0 d1
        go_wp2_with fail
        refine (alive05 _ (HE.out.keep hw5)).mono ?_
        rintro e w6 ⟨rfl, hb6⟩
        go_wp2_with fail
        go_ret
        exact ⟨rfl, bUp hw5 hb6⟩

set_option maxHeartbeats 8000000 in
set_option maxRecDepth 100000 in
theorem lawFormsT (c z : Int) (w : World) (hc0 : 0 ≤ c) (hc1 : c ≤ 4294967295) (hz0 : 0 ≤ z) (hz1 : z ≤ 255) (hE : Env w) :
    Calls Tryd.prog 7 #[.int .u32 c, .int .u8 z, .bool true] w fun e w' => e = .returned (.bool true) ∧ Below w.heap.size w w' := by
  have hm0 : 0 ≤ c % 1114112 := by omega
  have hm1 : c % 1114112 ≤ 1114111 := by omega
  have hv : validB (c % 1114112) = true := decide_eq_true ⟨hm0, hm1⟩
  have hHN : HexNum (hexL (c % 1114112)) (c % 1114112) := ⟨hexL_digit _, valD_hexL hv⟩
  have hl6 := hexL_length_le (c % 1114112)
  have hl4 : 4 ≤ (hexL (c % 1114112)).length := by
    obtain ⟨n, e, hn, e2⟩ := hexL_yes hv
    rw [e2, hexN_length]
    exact (hexLen_ok n hn).1
  have HE := Lib.hid hE
  have HHN := Lib.hid hHN
  clear hE hHN
  clear hv
  go_enter Tryd.func7, Tryd.ntmps7
  go_wp2_with fail
  refine (rfHex (c % 1114112) _).mono ?_
  rintro e w1 ⟨rfl, rfl⟩
  generalize c % 1114112 = x at HHN hl4 hl6 hm0 hm1 ⊢
  generalize hexL x = l0 at HHN hl4 hl6 ⊢
  go_wp2_with fail
  go_loop [1, 8] (fun z s => ∃ (l : List UInt8) (n : Int), 0 ≤ n ∧ n ≤ 255 ∧ z = .int .u8 n ∧ s = .string ⟨l.toArray⟩ ∧ 4 ≤ l.length ∧ l.length ≤ 6 ∧ Hid (HexNum l x)) (fun z _ => (intOf z).toNat)
  case atStart => exact ⟨l0, z, hz0, hz1, rfl, rfl, hl4, hl6, HHN⟩
  case round =>
    obtain ⟨l, n, hn0, hn1, rfl, rfl, h4, h6, HH⟩ := hrel
    by_cases hr : l.length < 6 ∧ 0 < n
    · obtain ⟨hr1, hr2⟩ := hr
      have p1 : decide ((l.length : Int) < 6) = true := by simp; omega
      have p2 : decide (0 < n) = true := by simpa using hr2
      go_wp2_with fail
      go_round
      case rel => exact ⟨48 :: l, n - 1, by omega, by omega, rfl, by rw [zero_ba], by simp; omega, by simp; omega, Lib.hid HH.out.zero⟩
      case measure => simp [intOf]; omega
    · have hrr : (¬ l.length < 6) ∨ (l.length < 6 ∧ n ≤ 0) := by omega
      clear hr
      have HD0 := Lib.hid HH.out.dig
      rcases hrr with hr | ⟨hr, hn⟩
      · have p1 : decide ((l.length : Int) < 6) = false := by simp; omega
        go_wp2_with fail
        go_loopw [9, 10] (fun o i wr => ∃ (k : Nat) (bs : List UInt8), k ≤ l.length ∧ i = .int .i64 k ∧ Hid (OwnB wr w.heap.size o bs) ∧ bs.length = k ∧ Hid (bs = (l.take k).map low) ∧ Below w.heap.size w wr) (fun _ i _ => l.length - (intOf i).toNat)
        case atStart => exact ⟨0, [], Nat.zero_le _, rfl, Lib.hid (OwnB.nil _ _), rfl, Lib.hid rfl, Below.refl _ _⟩
        case round =>
          obtain ⟨k, bs, hk, rfl, HO, hbs, HB, hbr⟩ := hrel
          have hsz := hbr.size
          have hbs' : bs.length ≤ 6 := by omega
          have HBS := Lib.hid hbs
          clear hbs
          by_cases hlt : k < l.length
          · have hki : (k : Int) < l.length := by omega
            have hb70 : btN l k ≤ 70 := by
              rw [btN_get hlt]
              obtain ⟨j, hj, e⟩ := HH.out.1 _ (List.getElem_mem hlt)
              have := hexC_le j hj
              omega
            have hln : (low l[k]).toNat = if 65 ≤ btN l k then btN l k + 32 else btN l k := by
              rw [btN_get hlt]
              exact low_nat (by rw [← btN_get hlt]; exact hb70)
            have HS := Lib.hid (show bs ++ [low l[k]] = (l.take (k + 1)).map low by rw [low_step hlt, HB.out])
            by_cases h65 : 65 ≤ btN l k
            · rw [if_pos h65] at hln
              have HL := Lib.hid hln
              clear hln
              go_wp2_with (at_builtin; refine wpB rfl _ _ rfl w.heap.size rfl HO.out (low l[k]) (n := (btN l k : Int) + 32) ?c1 rfl ?c2 hsz ?_)
              case c1 => rw [HL.out]; rfl
              case c2 => omega
              intro v' w3 hown3 hb3
              have hb4 := hb3 w hbr
              clear hb3
              go_wp2_with fail
              go_roundw
              case rel => exact ⟨k + 1, _, by omega, by go_num, hown3, by rw [List.length_append, HBS.out]; rfl, HS, hb4⟩
              case measure => simp [intOf]; omega
            · rw [if_neg h65] at hln
              have HL := Lib.hid hln
              clear hln
              go_wp2_with (at_builtin; refine wpB rfl _ _ rfl w.heap.size rfl HO.out (low l[k]) (n := (btN l k : Int)) ?c1 rfl ?c2 hsz ?_)
              case c1 => rw [HL.out]
              case c2 => omega
              intro v' w3 hown3 hb3
              have hb4 := hb3 w hbr
              clear hb3
              go_wp2_with fail
              go_roundw
              case rel => exact ⟨k + 1, _, by omega, by go_num, hown3, by rw [List.length_append, HBS.out]; rfl, HS, hb4⟩
              case measure => simp [intOf]; omega
          · have hbe : bs = l.map low := by rw [HB.out, List.take_of_length_le (by omega)]
            have HD := Lib.hid (show DigNum bs x by rw [hbe]; exact HH.out.low)
            have hb4 : 4 ≤ bs.length := by have := HBS.out; omega
            obtain ⟨A0, c0, rfl, hcv⟩ := HO.out.conv (by omega)
            clear hbe HB
            have k1 := fun w' => esParsed (l := [34, 92, 117, 123] ++ bs ++ [125, 34]) w' (by simp; omega) (form1 HD.out (by omega) (by omega) hm1)
            have k2 := fun w' => esParsed (l := [34, 92, 117, 123] ++ bs ++ [125]) w' (by simp; omega) (form2 HD.out (by omega) (by omega) hm1)
            have k3 := fun w' => esParsed (l := [34, 92, 117, 123] ++ bs ++ [59, 125, 34]) w' (by simp; omega) (form3 HD.out (by omega) hm1)
            have q1 := eqFaultSame 0 0
            have q2 := eqFaultSame 3 ((bs.length : Int) + 5)
            have q3 := eqFaultSame 3 1
            have K1 := Lib.hid k1
            have K2 := Lib.hid k2
            have K3 := Lib.hid k3
            clear k1 k2 k3
            go_wp2_with fail
            rw [form_ba1]
            refine (K1.out _).mono ?_
            rintro e w2 ⟨⟨A1, c1, rfl, hA1⟩, hb2⟩
            have HA1 := Lib.hid hA1
            clear hA1
            have hw2 : Below w.heap.size w w2 := bUp hbr hb2
            go_wp2_with fail
            rw [form_ba2]
            refine (K2.out _).mono ?_
            rintro e w3 ⟨⟨A2, c2, rfl, _⟩, hb3⟩
            have B1 := Lib.hid ((Blk.new w2 #[.int .i64 0, .int .i64 0] 36).keep hb3)
            have hw3 : Below w.heap.size w w3 := bUp (bUp hw2 (bBox _ _)) hb3
            have y3 := B1.out.lt
            go_wp2_with fail
            rw [form_ba3]
            refine (K3.out _).mono ?_
            rintro e w4 ⟨⟨A3, c3, rfl, _⟩, hb4⟩
            have B2 := Lib.hid ((B1.out.alloc (.cells #[.int .i64 3, .int .i64 ((bs.length : Int) + 5)] 36)).keep hb4)
            have B3 := Lib.hid ((Blk.new w3 #[.int .i64 3, .int .i64 ((bs.length : Int) + 5)] 36).keep hb4)
            have hw4 : Below w.heap.size w w4 := bUp (bUp hw3 (bBox _ _)) hb4
            have y4 := B2.out.lt
            have y5 := B3.out.lt
            have d0 := B2.out.cell 0
            have d1 := B2.out.cell 1
            have HA4 := Lib.hid ((((HA1.out.keep (bUp (bBox _ _) hb3)).keep (bUp (bBox _ _) hb4)).keep (bBox w4 (.cells #[.int .i64 3, .int .i64 1] 36))).keep (bBox _ (.cells (intVals [x]).toArray 3)))
            have HI4 := Lib.hid (ints_new (w4.alloc (.cells #[.int .i64 3, .int .i64 1] 36)) [x] 3)
            have n1 : w4.heap.size ≠ w2.heap.size := by omega
            have n2 : w4.heap.size ≠ w3.heap.size := by omega
            go_wp2_with fail
            refine (rfSame [x] A1 (some ⟨w4.heap.size + 1, 0, none⟩) c1 1 _ HA4.out (by have h := HI4.out; simpa using h) (by simp)).mono ?_
            rintro e w5 ⟨rfl, hb5⟩
            have B4 := ((B3.out.alloc (.cells #[.int .i64 3, .int .i64 1] 36)).alloc (.cells (intVals [x]).toArray 3)).keep hb5
            have B5 := ((Blk.new w4 #[.int .i64 3, .int .i64 1] 36).alloc (.cells (intVals [x]).toArray 3)).keep hb5
            have e0 := B4.cell 0
            have e1 := B4.cell 1
            have e2 := B5.cell 0
            have e3 := B5.cell 1
            have y6 := B4.lt
            have y7 := B5.lt
            have hw5 : Below w.heap.size w w5 := bUp (bUp (bUp hw4 (bBox _ _)) (bBox _ _)) hb5
            clear B4 B5 d0 d1
            go_wp2_with fail
            refine (alive05 _ (HE.out.keep hw5)).mono ?_
            rintro e w6 ⟨rfl, hb6⟩
            go_wp2_with fail
            go_ret
            exact ⟨rfl, bUp hw5 hb6⟩
      · have p1 : decide ((l.length : Int) < 6) = true := by simp; omega
        go_wp2_with fail
        go_loopw [9, 10] (fun o i wr => ∃ (k : Nat) (bs : List UInt8), k ≤ l.length ∧ i = .int .i64 k ∧ Hid (OwnB wr w.heap.size o bs) ∧ bs.length = k ∧ Hid (bs = (l.take k).map low) ∧ Below w.heap.size w wr) (fun _ i _ => l.length - (intOf i).toNat)
        case atStart => exact ⟨0, [], Nat.zero_le _, rfl, Lib.hid (OwnB.nil _ _), rfl, Lib.hid rfl, Below.refl _ _⟩
        case round =>
          obtain ⟨k, bs, hk, rfl, HO, hbs, HB, hbr⟩ := hrel
          have hsz := hbr.size
          have hbs' : bs.length ≤ 6 := by omega
          have HBS := Lib.hid hbs
          clear hbs
          by_cases hlt : k < l.length
          · have hki : (k : Int) < l.length := by omega
            have hb70 : btN l k ≤ 70 := by
              rw [btN_get hlt]
              obtain ⟨j, hj, e⟩ := HH.out.1 _ (List.getElem_mem hlt)
              have := hexC_le j hj
              omega
            have hln : (low l[k]).toNat = if 65 ≤ btN l k then btN l k + 32 else btN l k := by
              rw [btN_get hlt]
              exact low_nat (by rw [← btN_get hlt]; exact hb70)
            have HS := Lib.hid (show bs ++ [low l[k]] = (l.take (k + 1)).map low by rw [low_step hlt, HB.out])
            by_cases h65 : 65 ≤ btN l k
            · rw [if_pos h65] at hln
              have HL := Lib.hid hln
              clear hln
              go_wp2_with (at_builtin; refine wpB rfl _ _ rfl w.heap.size rfl HO.out (low l[k]) (n := (btN l k : Int) + 32) ?c1 rfl ?c2 hsz ?_)
              case c1 => rw [HL.out]; rfl
              case c2 => omega
              intro v' w3 hown3 hb3
              have hb4 := hb3 w hbr
              clear hb3
              go_wp2_with fail
              go_roundw
              case rel => exact ⟨k + 1, _, by omega, by go_num, hown3, by rw [List.length_append, HBS.out]; rfl, HS, hb4⟩
              case measure => simp [intOf]; omega
            · rw [if_neg h65] at hln
              have HL := Lib.hid hln
              clear hln
              go_wp2_with (at_builtin; refine wpB rfl _ _ rfl w.heap.size rfl HO.out (low l[k]) (n := (btN l k : Int)) ?c1 rfl ?c2 hsz ?_)
              case c1 => rw [HL.out]
              case c2 => omega
              intro v' w3 hown3 hb3
              have hb4 := hb3 w hbr
              clear hb3
              go_wp2_with fail
              go_roundw
              case rel => exact ⟨k + 1, _, by omega, by go_num, hown3, by rw [List.length_append, HBS.out]; rfl, HS, hb4⟩
              case measure => simp [intOf]; omega
          · have hbe : bs = l.map low := by rw [HB.out, List.take_of_length_le (by omega)]
            have HD := Lib.hid (show DigNum bs x by rw [hbe]; exact HH.out.low)
            have hb4 : 4 ≤ bs.length := by have := HBS.out; omega
            obtain ⟨A0, c0, rfl, hcv⟩ := HO.out.conv (by omega)
            clear hbe HB
            have k1 := fun w' => esParsed (l := [34, 92, 117, 123] ++ bs ++ [125, 34]) w' (by simp; omega) (form1 HD.out (by omega) (by omega) hm1)
            have k2 := fun w' => esParsed (l := [34, 92, 117, 123] ++ bs ++ [125]) w' (by simp; omega) (form2 HD.out (by omega) (by omega) hm1)
            have k3 := fun w' => esParsed (l := [34, 92, 117, 123] ++ bs ++ [59, 125, 34]) w' (by simp; omega) (form3 HD.out (by omega) hm1)
            have q1 := eqFaultSame 0 0
            have q2 := eqFaultSame 3 ((bs.length : Int) + 5)
            have q3 := eqFaultSame 3 1
            have K1 := Lib.hid k1
            have K2 := Lib.hid k2
            have K3 := Lib.hid k3
            clear k1 k2 k3
            go_wp2_with fail
            rw [form_ba1]
            refine (K1.out _).mono ?_
            rintro e w2 ⟨⟨A1, c1, rfl, hA1⟩, hb2⟩
            have HA1 := Lib.hid hA1
            clear hA1
            have hw2 : Below w.heap.size w w2 := bUp hbr hb2
            go_wp2_with fail
            rw [form_ba2]
            refine (K2.out _).mono ?_
            rintro e w3 ⟨⟨A2, c2, rfl, _⟩, hb3⟩
            have B1 := Lib.hid ((Blk.new w2 #[.int .i64 0, .int .i64 0] 36).keep hb3)
            have hw3 : Below w.heap.size w w3 := bUp (bUp hw2 (bBox _ _)) hb3
            have y3 := B1.out.lt
            go_wp2_with fail
            rw [form_ba3]
            refine (K3.out _).mono ?_
            rintro e w4 ⟨⟨A3, c3, rfl, _⟩, hb4⟩
            have B2 := Lib.hid ((B1.out.alloc (.cells #[.int .i64 3, .int .i64 ((bs.length : Int) + 5)] 36)).keep hb4)
            have B3 := Lib.hid ((Blk.new w3 #[.int .i64 3, .int .i64 ((bs.length : Int) + 5)] 36).keep hb4)
            have hw4 : Below w.heap.size w w4 := bUp (bUp hw3 (bBox _ _)) hb4
            have y4 := B2.out.lt
            have y5 := B3.out.lt
            have d0 := B2.out.cell 0
            have d1 := B2.out.cell 1
            have HA4 := Lib.hid ((((HA1.out.keep (bUp (bBox _ _) hb3)).keep (bUp (bBox _ _) hb4)).keep (bBox w4 (.cells #[.int .i64 3, .int .i64 1] 36))).keep (bBox _ (.cells (intVals [x]).toArray 3)))
            have HI4 := Lib.hid (ints_new (w4.alloc (.cells #[.int .i64 3, .int .i64 1] 36)) [x] 3)
            have n1 : w4.heap.size ≠ w2.heap.size := by omega
            have n2 : w4.heap.size ≠ w3.heap.size := by omega
            go_wp2_with fail
            refine (rfSame [x] A1 (some ⟨w4.heap.size + 1, 0, none⟩) c1 1 _ HA4.out (by have h := HI4.out; simpa using h) (by simp)).mono ?_
            rintro e w5 ⟨rfl, hb5⟩
            have B4 := ((B3.out.alloc (.cells #[.int .i64 3, .int .i64 1] 36)).alloc (.cells (intVals [x]).toArray 3)).keep hb5
            have B5 := ((Blk.new w4 #[.int .i64 3, .int .i64 1] 36).alloc (.cells (intVals [x]).toArray 3)).keep hb5
            have e0 := B4.cell 0
            have e1 := B4.cell 1
            have e2 := B5.cell 0
            have e3 := B5.cell 1
            have y6 := B4.lt
            have y7 := B5.lt
            have hw5 : Below w.heap.size w w5 := bUp (bUp (bUp hw4 (bBox _ _)) (bBox _ _)) hb5
            clear B4 B5 d0 d1
            go_wp2_with fail
            refine (alive05 _ (HE.out.keep hw5)).mono ?_
            rintro e w6 ⟨rfl, hb6⟩
            go_wp2_with fail
            go_ret
            exact ⟨rfl, bUp hw5 hb6⟩

theorem lawForms (c z : Int) (small : Bool) (w : World) (hc0 : 0 ≤ c) (hc1 : c ≤ 4294967295) (hz0 : 0 ≤ z) (hz1 : z ≤ 255) (hE : Env w) :
    Calls Tryd.prog 7 #[.int .u32 c, .int .u8 z, .bool small] w fun e w' => e = .returned (.bool true) ∧ Below w.heap.size w w' := by
  cases small
  · exact lawFormsF c z w hc0 hc1 hz0 hz1 hE
  · exact lawFormsT c z w hc0 hc1 hz0 hz1 hE
end Go.Proofs.YtgkogbjlbcllmaaDoor
