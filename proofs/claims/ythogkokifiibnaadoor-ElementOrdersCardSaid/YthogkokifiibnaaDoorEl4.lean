/- weights -/
import Derived.Test.YthogkokifiibnaaDoorEl3
import Derived.Test.YthogkokifiibnaaDoorBld
import Derived.Deep.RegionLaw
namespace Go.Proofs.YthogkokifiibnaaDoor
open Go.RowKit Go.Sort

def u8Vals (zs : List Int) : List Value := zs.map (.int .u8 ·)
/-- v is a slice of bytes of the call's own -/
def OwnU (w : World) (base : Nat) (v : Value) (zs : List Int) : Prop := w.ownsRow base 5 1 v zs.length (u8Vals zs)
theorem OwnU.nil (w : World) (base : Nat) : OwnU w base (.slice none 0 0) [] := ⟨by simp [u8Vals], .inl ⟨rfl, by simp⟩⟩
theorem OwnU.form {w : World} {base : Nat} {v : Value} {zs : List Int} (h : OwnU w base v zs) : ∃ A c, v = .slice A zs.length c := by
  rcases h.2 with ⟨hv, h0⟩ | ⟨g, cap, cur, hv, _, _, h1, _⟩
  · exact ⟨none, 0, by rw [hv, h0]⟩
  · exact ⟨_, _, hv⟩
theorem OwnU.keep {w w' : World} {base : Nat} {v : Value} {zs : List Int} (h : OwnU w base v zs) (hb : Below w.heap.size w w') : OwnU w' base v zs :=
  World.ownsRow.kept h ⟨hb.os, hb.tape, hb.output, hb.size, fun i hi _ => hb.block i hi⟩ (row := none) (by cases v.ownBlock <;> simp)
/-- the bytes news lie from block b on -/
def U8At (w : World) (b : Nat) (news : List Int) : Prop := b < w.heap.size ∧ ∀ j u, (u8Vals news)[j]? = some u → w.cell? ⟨b, 0 + j, none⟩ = some u
theorem U8At.keep {w w' : World} {b : Nat} {news : List Int} (h : U8At w b news) (hb : Below w.heap.size w w') : U8At w' b news := ⟨Nat.lt_of_lt_of_le h.1 hb.size, fun j u hu => (hb.cell (p := ⟨b, 0 + j, none⟩) h.1).trans (h.2 j u hu)⟩
theorem u8_new (w : World) (news : List Int) (t : TypeId) : U8At (w.alloc (.cells (u8Vals news).toArray t)) w.heap.size news := by
  refine ⟨by simp, fun j u hu => ?_⟩
  rw [Nat.zero_add, cell_box]
  simpa using hu
theorem wpU {ops : Array Oper} {rest : List Oper} {o : Oper} {a : Act} {Q : Exit → Act → World → Prop} {W : World} (hgd : o.guard = none) (s x : Operand) (ho : o.op = .call { callee := .builtin .append, args := #[s, x], argTypes := #[53, 53] })
    (base : Nat) {v : Value} {zs : List Int} (hs : a.eval s = v) (h : OwnU W base v zs) (news : List Int) {b c2 : Nat} (hx : a.eval x = .slice (some ⟨b, 0, none⟩) news.length c2) (hB : U8At W b news) (hl : zs.length + news.length ≤ 1000000) (hb : base ≤ W.heap.size)
    (hK : ∀ v' w', Hid (OwnU w' base v' (zs ++ news)) → (∀ w0, Below base w0 W → Below base w0 w') → wpList Tryd.prog ops Q rest (a.put o.dst v') w') : wpList Tryd.prog ops Q (o :: rest) a W := by
  obtain ⟨i0, hi, hz0, hz1, hz2⟩ := info_parts infoByte
  refine wpList_append_own _ hgd s x 53 ho base 5 i0 (.int .u8 0) 1 1 Tryd.underlying53 hi hz0 hz1 hz2 rfl (by decide) v zs.length (u8Vals zs) hs h ⟨b, 0, none⟩ news.length c2 (u8Vals news) hx
    (by simp [u8Vals]) (fun j u hu => by
      rw [Go.WideShapes.add_plain]
      exact hB.2 j u hu) (fun u hu => by simp [u8Vals] at hu; obtain ⟨x, _, rfl⟩ := hu; rfl) (by unfold maxLen; omega) (by omega) hb ?_
  intro v' w' hown' hg _
  refine hK v' w' (Lib.hid ?_) (fun w0 h0 => ?_)
  · unfold OwnU
    rw [List.length_append]
    simpa [u8Vals] using hown'
  · exact h0.grown hg hb (fun k hk => (World.ownsRow.lt h k hk).1)
theorem stepU {ops : Array Oper} {o : Oper} {a : Act} {K : Act → World → Prop} {Q : Exit → Act → World → Prop} {E : Prop} {W : World} (hgd : o.guard = none) (s x : Operand) (ho : o.op = .call { callee := .builtin .append, args := #[s, x], argTypes := #[53, 53] })
    (base : Nat) {v : Value} {zs : List Int} (hs : a.eval s = v) (h : OwnU W base v zs) (news : List Int) {b c2 : Nat} (hx : a.eval x = .slice (some ⟨b, 0, none⟩) news.length c2) (hB : U8At W b news) (hl : zs.length + news.length ≤ 1000000) (hb : base ≤ W.heap.size)
    (hK : ∀ v' w', Hid (OwnU w' base v' (zs ++ news)) → (∀ w0, Below base w0 W → Below base w0 w') → K (a.put o.dst v') w') : if Region.wanted o (yielded ops a.tmps) = true then Oper.wp Tryd.prog o a W K Q else E := by
  rw [if_pos (by simp [Region.wanted, hgd])]
  obtain ⟨i0, hi, hz0, hz1, hz2⟩ := info_parts infoByte
  refine wp_append_own _ s x 53 ho base 5 i0 (.int .u8 0) 1 1 Tryd.underlying53 hi hz0 hz1 hz2 rfl (by decide) v zs.length (u8Vals zs) hs h ⟨b, 0, none⟩ news.length c2 (u8Vals news) hx
    (by simp [u8Vals]) (fun j u hu => by
      rw [Go.WideShapes.add_plain]
      exact hB.2 j u hu) (fun u hu => by simp [u8Vals] at hu; obtain ⟨x, _, rfl⟩ := hu; rfl) (by unfold maxLen; omega) (by omega) hb ?_
  intro v' w' hown' hg _
  refine hK v' w' (Lib.hid ?_) (fun w0 h0 => ?_)
  · unfold OwnU
    rw [List.length_append]
    simpa [u8Vals] using hown'
  · exact h0.grown hg hb (fun k hk => (World.ownsRow.lt h k hk).1)
theorem and15 (n : Int) : bits .and .i64 n 15 = n % 16 := by
  have h15 : (BitVec.ofInt 64 15).toNat = 2 ^ 4 - 1 := by decide
  have key : (BitVec.ofInt 64 n &&& BitVec.ofInt 64 15).toNat = (n % ((2 ^ 64 : Nat) : Int)).toNat % 2 ^ 4 := by
    rw [BitVec.toNat_and, BitVec.toNat_ofInt, h15, Nat.and_two_pow_sub_one_eq_mod]
  show IntKind.i64.wrap ((BitVec.ofInt 64 n &&& BitVec.ofInt 64 15).toNat : Nat) = n % 16
  rw [key, IntKind.wrap_i64]
  omega
theorem digBtE (k : Nat) (hk : k < 16) : btN [48, 49, 50, 51, 52, 53, 54, 55, 56, 57, 65, 66, 67, 68, 69, 70] k = hexC k := by
  obtain rfl | rfl | rfl | rfl | rfl | rfl | rfl | rfl | rfl | rfl | rfl | rfl | rfl | rfl | rfl | rfl : k = 0 ∨ k = 1 ∨ k = 2 ∨ k = 3 ∨ k = 4 ∨ k = 5 ∨ k = 6 ∨ k = 7 ∨ k = 8 ∨ k = 9 ∨ k = 10 ∨ k = 11 ∨ k = 12 ∨ k = 13 ∨ k = 14 ∨ k = 15 := by omega
  all_goals rfl
theorem nib (z : Int) (m : Nat) (h0 : 0 ≤ z) : ∃ n : Nat, n < 16 ∧ n = z.toNat / m % 16 ∧ bits .and .i64 (z / m) 15 = (n : Int) := by
  refine ⟨z.toNat / m % 16, by omega, rfl, ?_⟩
  rw [and15]
  obtain ⟨k, rfl⟩ := Int.eq_ofNat_of_zero_le h0
  simp

def h4I (z : Int) : List Int := [hexC (z.toNat / 4096 % 16), hexC (z.toNat / 256 % 16), hexC (z.toNat / 16 % 16), hexC (z.toNat % 16)]
def wI (zs : List Int) : List Int := zs.foldl (fun acc z => (if acc = [] then [] else acc ++ [46]) ++ h4I z) []
theorem wI_snoc (zs : List Int) {k : Nat} (h : k < zs.length) : wI (zs.take (k + 1)) = (if wI (zs.take k) = [] then [] else wI (zs.take k) ++ [46]) ++ h4I (nth zs k) := by
  unfold wI
  rw [List.take_add_one, List.foldl_append]
  simp [nth, h]
theorem wI_ne (zs : List Int) {k : Nat} (h0 : 0 < k) (h : k ≤ zs.length) : ¬ wI (zs.take k) = [] := by
  obtain ⟨j, rfl⟩ : ∃ j, k = j + 1 := ⟨k - 1, by omega⟩
  rw [wI_snoc zs (by omega)]
  simp [h4I]
theorem wI_len (zs : List Int) : ∀ {k : Nat}, k ≤ zs.length → (wI (zs.take k)).length ≤ 5 * k
  | 0, _ => by simp [wI]
  | k + 1, h => by
    have ih := wI_len zs (k := k) (by omega)
    rw [wI_snoc zs (by omega), List.length_append]
    have : (h4I (nth zs k)).length = 4 := rfl
    split
    · simp only [List.length_nil]; omega
    · rw [List.length_append, List.length_singleton]; omega
theorem h4I_byte {z n : Int} (h : n ∈ h4I z) : 0 ≤ n ∧ n ≤ 255 := by
  have k1 := hexC_le (z.toNat / 4096 % 16) (by omega)
  have k2 := hexC_le (z.toNat / 256 % 16) (by omega)
  have k3 := hexC_le (z.toNat / 16 % 16) (by omega)
  have k4 := hexC_le (z.toNat % 16) (by omega)
  simp only [h4I, List.mem_cons, List.not_mem_nil, or_false] at h
  rcases h with rfl | rfl | rfl | rfl <;> omega
theorem wI_byte (zs : List Int) : ∀ n ∈ wI zs, 0 ≤ n ∧ n ≤ 255 := by
  have key : ∀ (zs acc : List Int), (∀ n ∈ acc, 0 ≤ n ∧ n ≤ 255) → ∀ n ∈ zs.foldl (fun acc z => (if acc = [] then [] else acc ++ [46]) ++ h4I z) acc, 0 ≤ n ∧ n ≤ 255 := by
    intro zs
    induction zs with
    | nil => exact fun acc h => h
    | cons z r ih =>
      intro acc h
      refine ih _ (fun n hn => ?_)
      rcases List.mem_append.1 hn with hn | hn
      · split at hn
        · cases hn
        · rcases List.mem_append.1 hn with hn | hn
          · exact h n hn
          · simp at hn
            omega
      · exact h4I_byte hn
  exact key zs [] (fun n hn => by cases hn)
theorem convU {W : World} {base : Nat} {v : Value} {xs : List Int} (h : OwnU W base v xs) (hne : ¬ xs = []) (hb : ∀ n ∈ xs, 0 ≤ n ∧ n ≤ 255) : ∃ g c, v = .slice (some ⟨g, 0, none⟩) xs.length c ∧ (convert 53 9 (.slice (some ⟨g, 0, none⟩) xs.length c)).run Tryd.prog W = .ok (.string ⟨(xs.map fun n => UInt8.ofNat n.toNat).toArray⟩) W := by
  obtain ⟨g, cap, hv, _, hlt⟩ := World.ownsRow.form h (by cases xs with | nil => exact absurd rfl hne | cons => simp)
  refine ⟨g, cap, hv, ?_⟩
  have := run_convert_bytes_back (P := Tryd.prog) W 53 9 5 ⟨g, 0, none⟩ cap (xs.map fun n => UInt8.ofNat n.toNat) Tryd.underlying53 Tryd.underlying5 Tryd.underlying9 (fun j hj => ?_)
  · rwa [List.length_map] at this
  · have hj' : j < xs.length := by simpa using hj
    have hm := hb _ (List.getElem_mem hj')
    have := World.ownsRow.cells h (g := g) (by rw [hv]; rfl) j (.int .u8 xs[j]) (by simp [u8Vals, hj'])
    rw [this]
    congr 2
    simp
    omega

set_option maxHeartbeats 8000000 in
set_option maxRecDepth 100000 in
theorem elWeights (zs : List Int) (A : Option Addr) (cp : Nat) (w : World) (hA : IntsAt w A zs) (h0 : 0 < zs.length) (hl : zs.length ≤ 1000) (hz : ∀ z ∈ zs, 0 ≤ z ∧ z ≤ 65535) :
    Calls Tryd.prog 19 #[.slice A zs.length cp] w fun e w' => e = .returned (.string ⟨((wI zs).map fun n => UInt8.ofNat n.toNat).toArray⟩) ∧ Below w.heap.size w w' := by
  have HA := Lib.hid hA
  have Hz := Lib.hid hz
  clear hA hz
  go_enter Tryd.func19, Tryd.ntmps19
  go_wp2_with fail
  go_loopw [3, 8] (fun v i wr => ∃ k : Nat, k ≤ zs.length ∧ i = .int .i64 k ∧ Hid (OwnU wr w.heap.size v (wI (zs.take k))) ∧ Below w.heap.size w wr) (fun _ i _ => zs.length - (intOf i).toNat)
  case atStart => exact ⟨0, Nat.zero_le _, rfl, Lib.hid (OwnU.nil _ _), Below.refl _ _⟩
  case round =>
    obtain ⟨k, hk, rfl, HO, hbr⟩ := hrel
    by_cases hlt : k < zs.length
    · obtain ⟨b1, o1, rfl, h1, e1⟩ := (HA.out.keep hbr) (by omega)
      have g1 := e1 k hlt
      have hki : (k : Int) < zs.length := by omega
      clear e1
      have hzr := Hz.out _ (nth_mem hlt)
      have hst := wI_snoc zs hlt
      have hwl := wI_len zs hk
      generalize nth zs k = z at g1 hzr hst
      obtain ⟨n1, hn1, q1, e1⟩ := nib z 4096 hzr.1
      obtain ⟨n2, hn2, q2, e2⟩ := nib z 256 hzr.1
      obtain ⟨n3, hn3, q3, e3⟩ := nib z 16 hzr.1
      obtain ⟨n4, hn4, q4, e4⟩ := nib z 1 hzr.1
      have hh : h4I z = [(hexC n1 : Int), hexC n2, hexC n3, hexC n4] := by rw [q1, q2, q3, q4]; simp [h4I]
      rw [hh] at hst
      have e1 : bits .and .i64 (z / 4096) 15 = (n1 : Int) := e1
      have e2 : bits .and .i64 (z / 256) 15 = (n2 : Int) := e2
      have e3 : bits .and .i64 (z / 16) 15 = (n3 : Int) := e3
      have e4 : bits .and .i64 z 15 = (n4 : Int) := by have h := e4; rwa [show ((1 : Nat) : Int) = 1 from rfl, Int.ediv_one] at h
      have f1 := digBtE n1 hn1
      have f2 := digBtE n2 hn2
      have f3 := digBtE n3 hn3
      have f4 := digBtE n4 hn4
      have Q1 := Lib.hid q1
      have Q2 := Lib.hid q2
      have Q3 := Lib.hid q3
      have Q4 := Lib.hid q4
      have Hh := Lib.hid hh
      have Hst := Lib.hid hst
      clear q1 q2 q3 q4 hh hst
      clear hzr
      have m1 : (n1 : Int) < 16 := by omega
      have m2 : (n2 : Int) < 16 := by omega
      have m3 : (n3 : Int) < 16 := by omega
      have m4 : (n4 : Int) < 16 := by omega
      have hsz := hbr.size
      by_cases h0 : k = 0
      · subst h0
        have HN := Lib.hid (show wI (zs.take (0 + 1)) = [] ++ [(hexC n1 : Int), hexC n2, hexC n3, hexC n4] by rw [Hst.out, if_pos (by rfl)])
        have HO0 : Hid (OwnU wr w.heap.size u3 []) := HO
        rw [Nat.add_zero] at g1
        go_wp2_with fail
        refine wp_region_any (by kernel_rfl) ?_
        change wpAny _ _ _ _ _ _ _ (World.drew _)
        have hbd : Below wr.heap.size wr wr.drew := (Below.refl _ _).drew
        generalize wr.drew = wd at hbd
        refine wpAny_take (i := 0) (v := u3) rfl (by kernel_rfl) (by kernel_rfl) (by kernel_rfl) (fun _ _ _ h => h) (Or.inl ⟨by rfl, fun w => by go_simp⟩) ?_
        refine wpAny_take (i := 1) (v := .int .i64 z) rfl (by kernel_rfl) (by kernel_rfl) (by kernel_rfl) (fun _ _ _ h => h) (Or.inl ⟨by rfl, fun w => by go_simp⟩) ?_
        refine wpAny_take (i := 2) (v := .int .i64 (z / 4096)) rfl (by kernel_rfl) (by kernel_rfl) (by kernel_rfl) (fun _ _ _ h => h) (Or.inl ⟨by rfl, fun w => by go_simp⟩) ?_
        refine wpAny_take (i := 3) (v := .int .i64 n1) rfl (by kernel_rfl) (by kernel_rfl) (by kernel_rfl) (fun _ _ _ h => h) (Or.inl ⟨by rfl, fun w => by go_simp⟩) ?_
        refine wpAny_take (i := 4) (v := .int .u8 (hexC n1 : Int)) rfl (by kernel_rfl) (by kernel_rfl) (by kernel_rfl) (fun _ _ _ h => h) (Or.inl ⟨by rfl, fun w => by go_simp⟩) ?_
        refine wpAny_take (i := 5) (v := .int .i64 z) rfl (by kernel_rfl) (by kernel_rfl) (by kernel_rfl) (fun _ _ _ h => h) (Or.inl ⟨by rfl, fun w => by go_simp⟩) ?_
        refine wpAny_take (i := 6) (v := .int .i64 (z / 256)) rfl (by kernel_rfl) (by kernel_rfl) (by kernel_rfl) (fun _ _ _ h => h) (Or.inl ⟨by rfl, fun w => by go_simp⟩) ?_
        refine wpAny_take (i := 7) (v := .int .i64 n2) rfl (by kernel_rfl) (by kernel_rfl) (by kernel_rfl) (fun _ _ _ h => h) (Or.inl ⟨by rfl, fun w => by go_simp⟩) ?_
        refine wpAny_take (i := 8) (v := .int .u8 (hexC n2 : Int)) rfl (by kernel_rfl) (by kernel_rfl) (by kernel_rfl) (fun _ _ _ h => h) (Or.inl ⟨by rfl, fun w => by go_simp⟩) ?_
        refine wpAny_take (i := 9) (v := .int .i64 z) rfl (by kernel_rfl) (by kernel_rfl) (by kernel_rfl) (fun _ _ _ h => h) (Or.inl ⟨by rfl, fun w => by go_simp⟩) ?_
        refine wpAny_take (i := 10) (v := .int .i64 (z / 16)) rfl (by kernel_rfl) (by kernel_rfl) (by kernel_rfl) (fun _ _ _ h => h) (Or.inl ⟨by rfl, fun w => by go_simp⟩) ?_
        refine wpAny_take (i := 11) (v := .int .i64 n3) rfl (by kernel_rfl) (by kernel_rfl) (by kernel_rfl) (fun _ _ _ h => h) (Or.inl ⟨by rfl, fun w => by go_simp⟩) ?_
        refine wpAny_take (i := 12) (v := .int .u8 (hexC n3 : Int)) rfl (by kernel_rfl) (by kernel_rfl) (by kernel_rfl) (fun _ _ _ h => h) (Or.inl ⟨by rfl, fun w => by go_simp⟩) ?_
        refine wpAny_take (i := 13) (v := .int .i64 z) rfl (by kernel_rfl) (by kernel_rfl) (by kernel_rfl) (fun _ _ _ h => h) (Or.inl ⟨by rfl, fun w => by go_simp⟩) ?_
        refine wpAny_take (i := 14) (v := .int .i64 n4) rfl (by kernel_rfl) (by kernel_rfl) (by kernel_rfl) (fun _ _ _ h => h) (Or.inl ⟨by rfl, fun w => by go_simp⟩) ?_
        refine wpAny_take (i := 15) (v := .int .u8 (hexC n4 : Int)) rfl (by kernel_rfl) (by kernel_rfl) (by kernel_rfl) (fun _ _ _ h => h) (Or.inl ⟨by rfl, fun w => by go_simp⟩) ?_
        refine wpAny_ready (rs := [16]) (by kernel_rfl) (by simp) ?_
        refine AllReady.cons rfl (fun K hK => ?_) AllReady.nil
        go_simp
        refine hK _ _ ?_
        clear hK K
        refine wpAny_ready (rs := [17]) (by kernel_rfl) (by simp) ?_
        refine AllReady.cons rfl (fun K hK => ?_) AllReady.nil
        refine stepU rfl (.tmp 18) (.tmp 34) rfl w.heap.size rfl ((HO0.out.keep hbd).keep (bBox wd _)) [(hexC n1 : Int), hexC n2, hexC n3, hexC n4] rfl (u8_new wd [(hexC n1 : Int), hexC n2, hexC n3, hexC n4] 5) (by simp) (by have := hbd.size; simp; omega) ?_
        intro v' w5 HO5 hb6
        refine hK _ _ ?_
        clear hK K
        obtain ⟨A5, c5, rfl⟩ := HO5.out.form
        refine wpAny_take (i := 18) (v := .slice A5 ([] ++ [(hexC n1 : Int), hexC n2, hexC n3, hexC n4]).length c5) rfl (by kernel_rfl) (by kernel_rfl) (by kernel_rfl) (fun _ _ _ h => h) (Or.inl ⟨by rfl, fun w => by go_simp⟩) ?_
        refine wpAny_done (by kernel_rfl) ?_ _
        have hb5 := hb6 w (bUp (bUp hbr hbd) (bBox wd _))
        clear hb6
        go_wp2_with fail
        go_roundw
        case rel => exact ⟨1, by omega, by simp, Lib.hid (by rw [HN.out]; exact HO5.out), hb5⟩
        case measure => simp [intOf]; omega
      · have hk0 : 0 < k := by omega
        have HN := Lib.hid (show wI (zs.take (k + 1)) = (wI (zs.take k) ++ [46]) ++ [(hexC n1 : Int), hexC n2, hexC n3, hexC n4] by rw [Hst.out, if_neg (wI_ne zs hk0 hk)])
        generalize wI (zs.take k) = acc at HO HN hwl
        obtain ⟨Av, cv, rfl⟩ := HO.out.form
        go_wp2_with (at_builtin; (refine wpU rfl _ _ rfl w.heap.size rfl (HO.out.keep (bBox _ _)) [46] rfl (u8_new wr [46] 5) ?hl6 ?hb6 ?_))
        case hl6 => simp; omega
        case hb6 => simp; omega
        intro v4 w4 HO4 hb4
        have hb04 := hb4 w (hbr.trans ((bBox wr _).mono hsz))
        have hsz4 := hb04.size
        clear hb4
        have hl4 : (acc ++ [46]).length ≤ 5 * k + 1 := by simp; omega
        generalize acc ++ [46] = acc4 at HO4 HN hl4
        obtain ⟨A4, c4, rfl⟩ := HO4.out.form
        go_wp2_with fail
        refine wp_region_any (by kernel_rfl) ?_
        change wpAny _ _ _ _ _ _ _ (World.drew _)
        have hbd : Below w4.heap.size w4 w4.drew := (Below.refl _ _).drew
        generalize w4.drew = wd at hbd
        refine wpAny_take (i := 0) (v := .slice A4 acc4.length c4) rfl (by kernel_rfl) (by kernel_rfl) (by kernel_rfl) (fun _ _ _ h => h) (Or.inl ⟨by rfl, fun w => by go_simp⟩) ?_
        refine wpAny_take (i := 1) (v := .int .i64 z) rfl (by kernel_rfl) (by kernel_rfl) (by kernel_rfl) (fun _ _ _ h => h) (Or.inl ⟨by rfl, fun w => by go_simp⟩) ?_
        refine wpAny_take (i := 2) (v := .int .i64 (z / 4096)) rfl (by kernel_rfl) (by kernel_rfl) (by kernel_rfl) (fun _ _ _ h => h) (Or.inl ⟨by rfl, fun w => by go_simp⟩) ?_
        refine wpAny_take (i := 3) (v := .int .i64 n1) rfl (by kernel_rfl) (by kernel_rfl) (by kernel_rfl) (fun _ _ _ h => h) (Or.inl ⟨by rfl, fun w => by go_simp⟩) ?_
        refine wpAny_take (i := 4) (v := .int .u8 (hexC n1 : Int)) rfl (by kernel_rfl) (by kernel_rfl) (by kernel_rfl) (fun _ _ _ h => h) (Or.inl ⟨by rfl, fun w => by go_simp⟩) ?_
        refine wpAny_take (i := 5) (v := .int .i64 z) rfl (by kernel_rfl) (by kernel_rfl) (by kernel_rfl) (fun _ _ _ h => h) (Or.inl ⟨by rfl, fun w => by go_simp⟩) ?_
        refine wpAny_take (i := 6) (v := .int .i64 (z / 256)) rfl (by kernel_rfl) (by kernel_rfl) (by kernel_rfl) (fun _ _ _ h => h) (Or.inl ⟨by rfl, fun w => by go_simp⟩) ?_
        refine wpAny_take (i := 7) (v := .int .i64 n2) rfl (by kernel_rfl) (by kernel_rfl) (by kernel_rfl) (fun _ _ _ h => h) (Or.inl ⟨by rfl, fun w => by go_simp⟩) ?_
        refine wpAny_take (i := 8) (v := .int .u8 (hexC n2 : Int)) rfl (by kernel_rfl) (by kernel_rfl) (by kernel_rfl) (fun _ _ _ h => h) (Or.inl ⟨by rfl, fun w => by go_simp⟩) ?_
        refine wpAny_take (i := 9) (v := .int .i64 z) rfl (by kernel_rfl) (by kernel_rfl) (by kernel_rfl) (fun _ _ _ h => h) (Or.inl ⟨by rfl, fun w => by go_simp⟩) ?_
        refine wpAny_take (i := 10) (v := .int .i64 (z / 16)) rfl (by kernel_rfl) (by kernel_rfl) (by kernel_rfl) (fun _ _ _ h => h) (Or.inl ⟨by rfl, fun w => by go_simp⟩) ?_
        refine wpAny_take (i := 11) (v := .int .i64 n3) rfl (by kernel_rfl) (by kernel_rfl) (by kernel_rfl) (fun _ _ _ h => h) (Or.inl ⟨by rfl, fun w => by go_simp⟩) ?_
        refine wpAny_take (i := 12) (v := .int .u8 (hexC n3 : Int)) rfl (by kernel_rfl) (by kernel_rfl) (by kernel_rfl) (fun _ _ _ h => h) (Or.inl ⟨by rfl, fun w => by go_simp⟩) ?_
        refine wpAny_take (i := 13) (v := .int .i64 z) rfl (by kernel_rfl) (by kernel_rfl) (by kernel_rfl) (fun _ _ _ h => h) (Or.inl ⟨by rfl, fun w => by go_simp⟩) ?_
        refine wpAny_take (i := 14) (v := .int .i64 n4) rfl (by kernel_rfl) (by kernel_rfl) (by kernel_rfl) (fun _ _ _ h => h) (Or.inl ⟨by rfl, fun w => by go_simp⟩) ?_
        refine wpAny_take (i := 15) (v := .int .u8 (hexC n4 : Int)) rfl (by kernel_rfl) (by kernel_rfl) (by kernel_rfl) (fun _ _ _ h => h) (Or.inl ⟨by rfl, fun w => by go_simp⟩) ?_
        refine wpAny_ready (rs := [16]) (by kernel_rfl) (by simp) ?_
        refine AllReady.cons rfl (fun K hK => ?_) AllReady.nil
        go_simp
        refine hK _ _ ?_
        clear hK K
        refine wpAny_ready (rs := [17]) (by kernel_rfl) (by simp) ?_
        refine AllReady.cons rfl (fun K hK => ?_) AllReady.nil
        refine stepU (zs := acc4) rfl (.tmp 18) (.tmp 34) rfl w.heap.size rfl ((HO4.out.keep hbd).keep (bBox wd _)) [(hexC n1 : Int), hexC n2, hexC n3, hexC n4] rfl (u8_new wd [(hexC n1 : Int), hexC n2, hexC n3, hexC n4] 5) (by simp; omega) (by have := hbd.size; simp; omega) ?_
        intro v' w5 HO5 hb6
        generalize acc4 ++ [(hexC n1 : Int), hexC n2, hexC n3, hexC n4] = acc5 at HO5 HN
        refine hK _ _ ?_
        clear hK K
        obtain ⟨A5, c5, rfl⟩ := HO5.out.form
        refine wpAny_take (i := 18) (v := .slice A5 acc5.length c5) rfl (by kernel_rfl) (by kernel_rfl) (by kernel_rfl) (fun _ _ _ h => h) (Or.inl ⟨by rfl, fun w => by go_simp⟩) ?_
        refine wpAny_done (by kernel_rfl) ?_ _
        have hb5 := hb6 w (bUp (bUp hb04 hbd) (bBox wd _))
        clear hb6
        go_wp2_with fail
        go_roundw
        case rel => exact ⟨k + 1, by omega, by go_num, Lib.hid (by rw [HN.out]; exact HO5.out), hb5⟩
        case measure => simp [intOf]; omega
    · obtain rfl : k = zs.length := by omega
      have hki : ¬ (zs.length : Int) < zs.length := by omega
      rw [List.take_length] at HO
      have hne := wI_ne zs h0 (Nat.le_refl _)
      rw [List.take_length] at hne
      obtain ⟨g, c, rfl, hcv⟩ := convU HO.out hne (wI_byte zs)
      generalize hbs : ((wI zs).map fun n => UInt8.ofNat n.toNat) = bs at hcv
      have Hbs := Lib.hid hbs
      clear hbs hne
      go_wp2_with fail
      go_ret
      exact ⟨by rw [Hbs.out]; rfl, hbr⟩
end Go.Proofs.YthogkokifiibnaaDoor
