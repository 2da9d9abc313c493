/- element.Text weight read and Parse of elements -/
import Derived.Test.YthogkokifiibnaaGreatDoorA3
import Derived.Laws.BitsLemmas
namespace Go.Proofs.YthogkokifiibnaaGreatDoor
open Go.RowKit Go.Sort

theorem h4_bytes (z : Int) : (h4I z).map (fun n => UInt8.ofNat n.toNat) = hex4 z := by
  unfold h4I hex4 hexN hexN hexN hexN hexN
  simp only [List.map_cons, List.map_nil, Int.toNat_natCast, List.nil_append, List.cons_append]
  rw [show z.toNat / 16 / 16 / 16 = z.toNat / 4096 by omega, show z.toNat / 16 / 16 = z.toNat / 256 by omega]
theorem wI_three (p s t : Int) : (wI [p, s, t]).map (fun n => UInt8.ofNat n.toNat) = hex4 p ++ [46] ++ hex4 s ++ [46] ++ hex4 t := by
  have e : wI [p, s, t] = h4I p ++ [46] ++ h4I s ++ [46] ++ h4I t := rfl
  rw [e]
  simp only [List.map_append, h4_bytes]
  rfl
theorem catE (c : List UInt8) (f : List UInt8) : (⟨c.toArray⟩ : ByteArray) ++ ⟨f.toArray⟩ = ⟨(c ++ f).toArray⟩ := ba_app c f
theorem ok_rng {d : ElemD} (h : chkE d = 0) : (0 ≤ d.p ∧ d.p ≤ 65535) ∧ (0 ≤ d.s ∧ d.s ≤ 65535) ∧ (0 ≤ d.t ∧ d.t ≤ 65535) := by
  unfold chkE at h
  split at h
  · rename_i h1
    unfold inW at h1
    simp only [Bool.and_eq_true, decide_eq_true_eq] at h1
    omega
  · cases h

set_option maxHeartbeats 8000000 in
set_option maxRecDepth 100000 in
theorem elText (ls : List ElemD) (A : Option Addr) (cp : Nat) (w : World) (hA : ElemsAt w A ls) (hl : ls.length ≤ 1000) :
    Calls Tryz.prog 14 #[.slice A ls.length cp] w fun e w' => e = .returned (.tuple #[.string ⟨(textE ls).1.toArray⟩, .int .i64 (textE ls).2]) ∧ Below w.heap.size w w' := by
  have HC := Lib.hid (elChecks ls A cp w hA (by omega))
  have htx := textE_of ls
  by_cases hc : chksE ls = 0
  · rw [if_pos hc] at htx
    have hall := chksE_zero hc
    rw [hc] at HC
    rw [htx]
    have HA := Lib.hid hA
    have Hall := Lib.hid hall
    clear hA hall
    clear htx hc
    go_enter Tryz.func14, Tryz.ntmps14
    go_wp2_with fail
    refine HC.out.mono ?_
    rintro e w1 ⟨rfl, hb1⟩
    have HA1 := Lib.hid (HA.out.keep hb1)
    have H1 := Lib.hid hb1
    clear hb1
    go_wp2_with fail
    go_loopw [16] (fun i wr => ∃ (k : Nat) (acc : List UInt8), k ≤ ls.length ∧ i = .int .i64 k ∧ acc.length ≤ 17 * k ∧ Hid (acc = (ls.take k).flatMap oneE) ∧ Hid (Bld 57 [] w1.heap.size acc wr) ∧ Below w1.heap.size w1 wr) (fun i _ => ls.length - (intOf i).toNat)
    case atStart => exact ⟨0, [], Nat.zero_le _, rfl, by simp, Lib.hid rfl, Lib.hid (Bld.fresh _ _ _), bBox w1 _⟩
    case round =>
      obtain ⟨k, acc, hk, rfl, hal, HT, HB, hbr⟩ := hrel
      by_cases hlt : k < ls.length
      · obtain ⟨b1, o1, rfl, h1, p0, p1, p2, p3⟩ := (HA1.out.keep hbr).at_ hlt
        have hok := ok_rng (by have := List.all_eq_true.1 Hall.out _ (elemAt_mem hlt); simpa using this)
        have hst := flatE_snoc ls (elemAt_get hlt)
        have hki : (k : Int) < ls.length := by omega
        have hone : oneE (elemAt ls k) = [91, signE (elemAt ls k)] ++ hex4 (elemAt ls k).p ++ [46] ++ hex4 (elemAt ls k).s ++ [46] ++ hex4 (elemAt ls k).t ++ [93] := rfl
        have hol := oneE_length (elemAt ls k)
        generalize elemAt ls k = d at p0 p1 p2 p3 hok hst hone hol
        generalize oneE d = od at hst hone hol
        obtain ⟨p, s, t, v⟩ := d
        dsimp only at p0 p1 p2 p3 hok hone
        have HW := Lib.hid (fun w' (h : IntsAt w' (some ⟨wr.heap.size + 1, 0, none⟩) [p, s, t]) => elWeights [p, s, t] (some ⟨wr.heap.size + 1, 0, none⟩) 3 w' h (by simp) (by simp) (fun z hz => by simp at hz; rcases hz with rfl | rfl | rfl <;> omega))
        rw [wI_three] at HW
        have hwl : (hex4 p ++ [46] ++ hex4 s ++ [46] ++ hex4 t).length = 14 := by simp [hex4_length]
        have hone2 : od = [91] ++ [signE ⟨p, s, t, v⟩] ++ (hex4 p ++ [46] ++ hex4 s ++ [46] ++ hex4 t) ++ [93] := by rw [hone]; simp
        generalize hex4 p ++ [46] ++ hex4 s ++ [46] ++ hex4 t = ws at HW hwl hone2
        have hin : ∀ X : Obj, IntsAt ((wr.alloc X).alloc (.cells #[.int .i64 p, .int .i64 s, .int .i64 t] 3)) (some ⟨wr.heap.size + 1, 0, none⟩) [p, s, t] := fun X => by
          have h := ints_new (wr.alloc X) [p, s, t] 3
          rwa [show (wr.alloc X).heap.size = wr.heap.size + 1 by simp] at h
        have HIn := Lib.hid hin
        have Hone := Lib.hid hone
        have Hst := Lib.hid hst
        clear hone hst
        clear hin hok
        cases v
        · have hone3 : od = [91, 46] ++ ws ++ [93] := by rw [hone2]; rfl
          have c1 : (⟨#[91]⟩ : ByteArray) ++ ⟨#[46]⟩ = ⟨#[91, 46]⟩ := catE [91] [46]
          have c2 : (⟨#[91, 46]⟩ : ByteArray) ++ ⟨ws.toArray⟩ = ⟨([91, 46] ++ ws).toArray⟩ := catE [91, 46] ws
          have c3 : (⟨([91, 46] ++ ws).toArray⟩ : ByteArray) ++ ⟨#[93]⟩ = ⟨od.toArray⟩ := by rw [hone3]; exact catE ([91, 46] ++ ws) [93]
          have hl2 : ([91, 46] ++ ws).length = 16 := by simp [hwl]
          generalize [91, 46] ++ ws = q2 at c2 c3 hl2
          have HO := Lib.hid (show acc ++ od = (ls.take (k + 1)).flatMap oneE by rw [Hst.out, HT.out])
          have hwl' : ws.length ≤ 14 := by omega
          have hl2' : q2.length ≤ 16 := by omega
          clear hone2 hone3 hwl hl2
          go_wp2_with fail
          refine (HW.out _ (HIn.out _)).mono ?_
          rintro e w3 ⟨rfl, hb3⟩
          have h13 := bUp (bUp (bBox wr _) (bBox _ _)) hb3
          have HB3 := Lib.hid (HB.out.keep h13)
          have h03 := hbr.trans (h13.mono hbr.size)
          clear hb3 h13
          go_wp2_with fail
          refine (writeString bldTy0 HB3.out od (by omega) (by omega)).mono ?_
          rintro e w4 ⟨rfl, hbl4, hb4⟩
          have HB4 := Lib.hid hbl4
          clear hbl4
          have hl5 : (acc ++ od).length ≤ 17 * (k + 1) := by rw [List.length_append]; omega
          generalize acc ++ od = acc2 at HO HB4 hl5
          go_wp2_with fail
          go_roundw
          case rel => exact ⟨k + 1, acc2, by omega, by go_num, hl5, HO, HB4, h03.trans hb4⟩
          case measure => simp [intOf]; omega
        · have hone3 : od = [91, 42] ++ ws ++ [93] := by rw [hone2]; rfl
          have c1 : (⟨#[91]⟩ : ByteArray) ++ ⟨#[42]⟩ = ⟨#[91, 42]⟩ := catE [91] [42]
          have c2 : (⟨#[91, 42]⟩ : ByteArray) ++ ⟨ws.toArray⟩ = ⟨([91, 42] ++ ws).toArray⟩ := catE [91, 42] ws
          have c3 : (⟨([91, 42] ++ ws).toArray⟩ : ByteArray) ++ ⟨#[93]⟩ = ⟨od.toArray⟩ := by rw [hone3]; exact catE ([91, 42] ++ ws) [93]
          have hl2 : ([91, 42] ++ ws).length = 16 := by simp [hwl]
          generalize [91, 42] ++ ws = q2 at c2 c3 hl2
          have HO := Lib.hid (show acc ++ od = (ls.take (k + 1)).flatMap oneE by rw [Hst.out, HT.out])
          have hwl' : ws.length ≤ 14 := by omega
          have hl2' : q2.length ≤ 16 := by omega
          clear hone2 hone3 hwl hl2
          go_wp2_with fail
          refine (HW.out _ (HIn.out _)).mono ?_
          rintro e w3 ⟨rfl, hb3⟩
          have h13 := bUp (bUp (bBox wr _) (bBox _ _)) hb3
          have HB3 := Lib.hid (HB.out.keep h13)
          have h03 := hbr.trans (h13.mono hbr.size)
          clear hb3 h13
          go_wp2_with fail
          refine (writeString bldTy0 HB3.out od (by omega) (by omega)).mono ?_
          rintro e w4 ⟨rfl, hbl4, hb4⟩
          have HB4 := Lib.hid hbl4
          clear hbl4
          have hl5 : (acc ++ od).length ≤ 17 * (k + 1) := by rw [List.length_append]; omega
          generalize acc ++ od = acc2 at HO HB4 hl5
          go_wp2_with fail
          go_roundw
          case rel => exact ⟨k + 1, acc2, by omega, by go_num, hl5, HO, HB4, h03.trans hb4⟩
          case measure => simp [intOf]; omega
      · obtain rfl : k = ls.length := by omega
        have hki : ¬ (ls.length : Int) < ls.length := by omega
        have hfin := HT.out
        rw [List.take_length] at hfin
        have Hfin := Lib.hid hfin
        clear hfin
        go_wp2_with fail
        refine (bldString HB.out).mono ?_
        rintro e w2 ⟨rfl, hb2⟩
        go_wp2_with fail
        go_ret2
        exact ⟨by rw [Hfin.out]; rfl, bUp H1.out (hbr.trans hb2)⟩
  · rw [if_neg hc] at htx
    have hne : (chksE ls != 0) = true := by simp [hc]
    rw [htx]
    generalize chksE ls = ce at HC hne
    have HA := Lib.hid hA
    clear hA
    clear htx hc
    go_enter Tryz.func14, Tryz.ntmps14
    go_wp2_with fail
    refine HC.out.mono ?_
    rintro e w1 ⟨rfl, hb1⟩
    go_wp2_with fail
    go_ret2
    exact ⟨rfl, hb1⟩
end Go.Proofs.YthogkokifiibnaaGreatDoor
namespace Go.Proofs.YthogkokifiibnaaGreatDoor
open Go.RowKit Go.Sort

def digs : List UInt8 := [48, 49, 50, 51, 52, 53, 54, 55, 56, 57, 65, 66, 67, 68, 69, 70]
theorem idxDig (b : UInt8) : Lib.indexByte digs b = hexVal (b.toNat : Int) := by
  have h : ∀ n : Fin 256, Lib.indexByte digs (UInt8.ofNat n.val) = hexVal ((UInt8.ofNat n.val).toNat : Int) := by decide +kernel
  have := h ⟨b.toNat, UInt8.toNat_lt b⟩
  simpa using this
theorem elIdx (l : List UInt8) (k : Nat) (hk : k < l.length) (w : World) : Calls Tryz.prog 62 #[.string ⟨#[48, 49, 50, 51, 52, 53, 54, 55, 56, 57, 65, 66, 67, 68, 69, 70]⟩, .int .u8 (btN l k)] w fun e w' => e = .returned (.int .i64 (hexVal (btN l k))) ∧ w = w' := by
  refine (Tryz.strings_IndexByte ⟨#[48, 49, 50, 51, 52, 53, 54, 55, 56, 57, 65, 66, 67, 68, 69, 70]⟩ (btN l k) w).mono ?_
  rintro e w' ⟨rfl, rfl⟩
  refine ⟨?_, rfl⟩
  have e1 : ((btN l k : Int)).toNat.toUInt8 = l[k] := by simp [btN, hk]
  have e2 : btN l k = l[k].toNat := by simp [btN, hk]
  rw [e1, e2, ← idxDig]
  rfl
theorem or16 {a d : Int} (h0 : 0 ≤ a) (h1 : a < 16777216) (h2 : 0 ≤ d) (h3 : d < 16) : bits .or .i64 (a * 16) d = a * 16 + d :=
  bits_join .i64 62 (by decide) (fun n h0 h1 => by rw [IntKind.wrap_i64]; omega) 4 (a * 16) d (by omega) (by omega) (by omega) h2 (by omega) (by omega)

set_option maxHeartbeats 8000000 in
set_option maxRecDepth 100000 in
theorem elWeight (l : List UInt8) (w : World) (hl : l.length ≤ 4) :
    Calls Tryz.prog 47 #[.string ⟨l.toArray⟩] w fun e w' => e = .returned (.tuple #[.int .i64 ((numL l 0).getD 0), .bool (numL l 0).isSome]) ∧ w = w' := by
  go_enter Tryz.func47, Tryz.ntmps47
  go_wp2_with fail
  go_loop [4, 9] (fun a i => ∃ (k : Nat) (c : Int), k ≤ l.length ∧ i = .int .i64 k ∧ a = .int .i64 c ∧ 0 ≤ c ∧ c < 16 ^ k ∧ Hid (numL l 0 = numL (l.drop k) c)) (fun _ i => l.length - (intOf i).toNat)
  case atStart => exact ⟨0, 0, Nat.zero_le _, rfl, rfl, by omega, by decide, Lib.hid rfl⟩
  case round =>
    obtain ⟨k, c, hk, rfl, rfl, hc0, hc1, HN⟩ := hrel
    by_cases hlt : k < l.length
    · have hbt := btN_lt l k
      have hki : (k : Int) < l.length := by omega
      have HI := Lib.hid (elIdx l k hlt)
      have hv := hexVal_le (btN l k)
      have hp : (16 : Int) ^ k ≤ 4096 := by
        obtain rfl | rfl | rfl | rfl : k = 0 ∨ k = 1 ∨ k = 2 ∨ k = 3 := by omega
        all_goals decide
      by_cases hx : hexVal (btN l k) < 0
      · have hd : decide (hexVal (btN l k) < 0) = true := decide_eq_true hx
        have HR := Lib.hid (show numL l 0 = none by rw [HN.out]; exact numL_bad hlt hx)
        generalize hexVal (btN l k) = x at HI hd hx hv
        have Hx := Lib.hid hx
        have Hc1 := Lib.hid hc1
        have Hp := Lib.hid hp
        clear hx hc1 hp
        go_wp2_with fail
        refine (HI.out _).mono ?_
        rintro e w1 ⟨rfl, rfl⟩
        go_wp2_with fail
        go_ret2
        exact ⟨by rw [HR.out]; rfl, rfl⟩
      · have hd : decide (hexVal (btN l k) < 0) = false := decide_eq_false hx
        have HR := Lib.hid (show numL l 0 = numL (l.drop (k + 1)) (c * 16 + hexVal (btN l k)) by rw [HN.out]; exact numL_good hlt hx)
        have ho := or16 (a := c) (d := hexVal (btN l k)) hc0 (by omega) (by omega) (by omega)
        have hn1 : c * 16 + hexVal (btN l k) < 16 ^ (k + 1) := by rw [Int.pow_succ]; omega
        generalize hexVal (btN l k) = x at HI hd hx hv HR ho hn1
        have hw : IntKind.i64.wrap (c * 16) = c * 16 := IntWalk.i64_in (c * 16) (by omega)
        have hx0 := Lib.hid (show 0 ≤ c * 16 + x by omega)
        have Hx := Lib.hid hx
        have Hc1 := Lib.hid hc1
        have Hp := Lib.hid hp
        have Hn1 := Lib.hid hn1
        clear hx hc1 hp hn1
        go_wp2_with fail
        refine (HI.out _).mono ?_
        rintro e w1 ⟨rfl, rfl⟩
        go_wp2_with fail
        go_round
        case rel => exact ⟨k + 1, c * 16 + x, by omega, by go_num, rfl, hx0.out, Hn1.out, HR⟩
        case measure => simp [intOf]; omega
    · obtain rfl : k = l.length := by omega
      have hki : ¬ (l.length : Int) < l.length := by omega
      have HR := Lib.hid (show numL l 0 = some c by rw [HN.out, List.drop_eq_nil_of_le (Nat.le_refl _)]; rfl)
      have Hc1 := Lib.hid hc1
      clear hc1
      go_wp2_with fail
      go_ret2
      exact ⟨by rw [HR.out]; rfl, rfl⟩
end Go.Proofs.YthogkokifiibnaaGreatDoor
namespace Go.Proofs.YthogkokifiibnaaGreatDoor
open Go.RowKit Go.Sort

/-- append(v, d), the new element in the newest block -/
theorem wpE {ops : Array Oper} {rest : List Oper} {o : Oper} {a : Act} {Q : Exit → Act → World → Prop} {W : World} (hgd : o.guard = none) (s x : Operand) (ho : o.op = .call { callee := .builtin .append, args := #[s, x], argTypes := #[23, 23] })
    (base : Nat) {v : Value} {ls : List ElemD} (hs : a.eval s = v) (h : OwnE W base v ls) (d : ElemD) (hx : a.eval x = .slice (some ⟨W.heap.size, 0, none⟩) 1 1) (hl : ls.length + 1 ≤ 1000000) (hb : base ≤ W.heap.size)
    (hK : ∀ v' w', Hid (OwnE w' base v' (ls ++ [d])) → (∀ w0, Below base w0 W → Below base w0 w') → wpList Tryz.prog ops Q rest (a.put o.dst v') w') : wpList Tryz.prog ops Q (o :: rest) a (W.alloc (.cells #[.int .i64 d.p, .int .i64 d.s, .int .i64 d.t, .bool d.v] 45)) := by
  obtain ⟨i0, hi, hz0, hz1, hz2⟩ := info_parts infoElem
  have hk := h.keep (bBox W (.cells #[.int .i64 d.p, .int .i64 d.s, .int .i64 d.t, .bool d.v] 45))
  have hcell : ∀ j u, (elemCells d)[j]? = some u → (W.alloc (.cells #[.int .i64 d.p, .int .i64 d.s, .int .i64 d.t, .bool d.v] 45)).cell? ((⟨W.heap.size, 0, none⟩ : Addr).add j) = some u := by
    intro j u hu
    rw [Go.WideShapes.add_plain, (Blk.new W _ _).cell]
    simpa [elemCells] using hu
  refine wpList_append_own _ hgd s x 23 ho base 45 i0 _ 4 32 Tryz.underlying23 hi hz0 hz1 hz2 rfl (by decide) v ls.length (rowE ls) hs hk ⟨W.heap.size, 0, none⟩ 1 1 (elemCells d) hx rfl hcell
    (fun u hu => by simp only [elemCells, List.mem_cons, List.not_mem_nil, or_false] at hu; rcases hu with rfl | rfl | rfl | rfl <;> rfl) (by unfold maxLen; omega) (by omega) (by simp; omega) ?_
  intro v' w' hown' hg _
  refine hK v' w' (Lib.hid ?_) (fun w0 h0 => ?_)
  · unfold OwnE
    rw [List.length_append, rowE_snoc]
    exact hown'
  · exact (h0.alloc hb _).grown hg (by simp; omega) (fun k e => (hk.row k e).1)

theorem strSeg (l : List UInt8) {j k : Nat} (h1 : j ≤ k) (h2 : k ≤ l.length) (w : World) : (Instr.slice 9 (.string ⟨l.toArray⟩) (some (.int .i64 j)) (some (.int .i64 k)) none).run Tryz.prog w = .ok (.string ⟨(seg l j k).toArray⟩) w := by
  have h3 : (k : Int) ≤ l.length := by omega
  have h4 : (j : Int) ≤ k := by omega
  simp [go_sem, Tryz.underlying9, h3, h4, seg]
theorem strLo (l : List UInt8) {j : Nat} (h1 : j ≤ l.length) (w : World) : (Instr.slice 9 (.string ⟨l.toArray⟩) (some (.int .i64 j)) none none).run Tryz.prog w = .ok (.string ⟨(l.drop j).toArray⟩) w := by
  have h3 : (j : Int) ≤ l.length := by omega
  simp [go_sem, Tryz.underlying9, h3, seg_end]
/-- what read gives back -/
def ReadOut (w' : World) (base : Nat) (l : List UInt8) (e : Ending) : Prop :=
  match readE l with
  | some es => ∃ A c, e = .returned (.tuple #[.slice A es.length c, .bool true]) ∧ OwnE w' base (.slice A es.length c) es
  | none => e = .returned (.tuple #[.slice none 0 0, .bool false])
theorem seg_take {l : List UInt8} {j k : Nat} (h : k ≤ 17) : seg (l.take 17) j k = seg l j k := by
  unfold seg
  rw [List.drop_take, List.take_take]
  congr 1
  omega
theorem byte_take {l : List UInt8} {k : Nat} (h : k < 17) : (byteE (l.take 17) k).toNat = btN l k := by
  unfold byteE btN
  rw [List.getD_eq_getElem?_getD, List.getD_eq_getElem?_getD, List.getElem?_take_of_lt h]
theorem byte_eq {l : List UInt8} {k : Nat} (h : k < 17) (c : UInt8) : byteE (l.take 17) k = c ↔ btN l k = c.toNat := by
  rw [← byte_take h]
  exact ⟨fun e => by rw [e], fun e => UInt8.toNat_inj.1 e⟩
/-- an element at the beginning of a text -/
theorem elem_front (l : List UInt8) : elemT (l.take 17) =
    if btN l 0 = 91 ∧ (btN l 1 = 46 ∨ btN l 1 = 42) ∧ btN l 6 = 46 ∧ btN l 11 = 46 ∧ btN l 16 = 93 then
      match numL (seg l 2 6) 0, numL (seg l 7 11) 0, numL (seg l 12 16) 0 with
      | some p, some q, some r => some ⟨p, q, r, (btN l 1 : Int) == 42⟩
      | _, _, _ => none
    else none := by
  have e1 : (byteE (l.take 17) 1 == 42) = ((btN l 1 : Int) == 42) := by
    rw [Bool.eq_iff_iff, beq_iff_eq, beq_iff_eq, byte_eq (by omega)]
    have : (42 : UInt8).toNat = 42 := rfl
    omega
  have hc : (byteE (l.take 17) 0 = 91 ∧ (byteE (l.take 17) 1 = 46 ∨ byteE (l.take 17) 1 = 42) ∧ byteE (l.take 17) 6 = 46 ∧ byteE (l.take 17) 11 = 46 ∧ byteE (l.take 17) 16 = 93) ↔ (btN l 0 = 91 ∧ (btN l 1 = 46 ∨ btN l 1 = 42) ∧ btN l 6 = 46 ∧ btN l 11 = 46 ∧ btN l 16 = 93) := by
    rw [byte_eq (by omega), byte_eq (by omega), byte_eq (by omega), byte_eq (by omega), byte_eq (by omega), byte_eq (by omega)]
    exact Iff.rfl
  unfold elemT
  rw [seg_take (by omega), seg_take (by omega), seg_take (by omega), e1]
  by_cases h : btN l 0 = 91 ∧ (btN l 1 = 46 ∨ btN l 1 = 42) ∧ btN l 6 = 46 ∧ btN l 11 = 46 ∧ btN l 16 = 93
  · rw [if_pos h, if_pos (hc.2 h)]
    cases numL (seg l 2 6) 0 <;> cases numL (seg l 7 11) 0 <;> cases numL (seg l 12 16) 0 <;> rfl
  · rw [if_neg h, if_neg (fun h' => h (hc.1 h'))]
theorem read_bad {l rest : List UInt8} {acc : List ElemD} (h : readE l = (readE rest).map (acc ++ ·)) (h17 : 17 ≤ rest.length) (he : elemT (rest.take 17) = none) : readE l = none := by
  rw [h, readE_step h17, he]
  rfl
theorem read_good {l rest : List UInt8} {acc : List ElemD} {d : ElemD} (h : readE l = (readE rest).map (acc ++ ·)) (h17 : 17 ≤ rest.length) (he : elemT (rest.take 17) = some d) : readE l = (readE (rest.drop 17)).map ((acc ++ [d]) ++ ·) := by
  rw [h, readE_step h17, he]
  cases readE (rest.drop 17) <;> simp

set_option maxHeartbeats 8000000 in
set_option maxRecDepth 100000 in
theorem elRead (l : List UInt8) (w : World) (hl : l.length ≤ 65536) :
    Calls Tryz.prog 22 #[.string ⟨l.toArray⟩] w fun e w' => ReadOut w' w.heap.size l e ∧ Below w.heap.size w w' := by
  have hmr : ((l.length : Int)).tmod 17 = ((l.length % 17 : Nat) : Int) := by rw [Int.tmod_eq_emod_of_nonneg (by omega)]; omega
  by_cases hm : l.length % 17 = 0
  · rw [hm] at hmr
    go_enter Tryz.func22, Tryz.ntmps22
    go_wp2_with fail
    go_loopw [0, 4] (fun s v wr => ∃ (rest : List UInt8) (acc : List ElemD), s = .string ⟨rest.toArray⟩ ∧ rest.length ≤ l.length ∧ rest.length % 17 = 0 ∧ acc.length ≤ l.length ∧ acc.length + rest.length ≤ l.length ∧ Hid (OwnE wr w.heap.size v acc) ∧ Hid (readE l = (readE rest).map (acc ++ ·)) ∧ Below w.heap.size w wr) (fun s _ _ => strLen s)
    case atStart => exact ⟨l, [], rfl, Nat.le_refl _, hm, by simp, by simp, Lib.hid (OwnE.nil _ _), Lib.hid (by cases readE l <;> simp), Below.refl _ _⟩
    case round =>
      obtain ⟨rest, acc, rfl, hrl, hrm, hal, hsum, HO, HR, hbr⟩ := hrel
      by_cases hnil : rest = []
      · subst hnil
        obtain ⟨Av, cv, rfl, _⟩ := HO.out.form
        have HF := Lib.hid (show readE l = some acc by rw [HR.out, readE_nil]; simp)
        go_wp2_with fail
        go_ret2
        exact ⟨by unfold ReadOut; rw [HF.out]; exact ⟨Av, cv, rfl, HO.out⟩, hbr⟩
      · have h17 : 17 ≤ rest.length := by
          have : rest.length ≠ 0 := fun e => hnil (List.length_eq_zero_iff.1 e)
          omega
        have hne : (rest == []) = false := by simp [hnil]
        have i0 : (0 : Int) < rest.length := by omega
        have i1 : (1 : Int) < rest.length := by omega
        have i6 : (6 : Int) < rest.length := by omega
        have i11 : (11 : Int) < rest.length := by omega
        have i16 : (16 : Int) < rest.length := by omega
        have Hnil := Lib.hid hnil
        clear hnil
        clear hmr
        have hef := elem_front rest
        by_cases q0 : btN rest 0 = 91
        · have f0 : ((btN rest 0 : Int) != 91) = false := by simp; omega
          by_cases q1 : btN rest 1 = 46 ∨ btN rest 1 = 42
          · by_cases q6 : btN rest 6 = 46
            · have f6 : ((btN rest 6 : Int) != 46) = false := by simp; omega
              by_cases q11 : btN rest 11 = 46
              · have f11 : ((btN rest 11 : Int) != 46) = false := by simp; omega
                by_cases q16 : btN rest 16 = 93
                · have f16 : ((btN rest 16 : Int) != 93) = false := by simp; omega
                  rw [if_pos ⟨q0, q1, q6, q11, q16⟩] at hef
                  have Q0 := Lib.hid q0
                  have Q6 := Lib.hid q6
                  have Q11 := Lib.hid q11
                  have Q16 := Lib.hid q16
                  clear q0 q6 q11 q16
                  rcases q1 with q1 | q1
                  · have f1 : ((btN rest 1 : Int) != 46) = false := by simp; omega
                    have f3 : ((btN rest 1 : Int) == 42) = false := by simp; omega
                    rw [f3] at hef
                    have Q1 := Lib.hid q1
                    clear q1
                    have HW1 := Lib.hid (fun w' => elWeight (seg rest 2 6) w' (by rw [seg_length (by omega)]; omega))
                    have HW2 := Lib.hid (fun w' => elWeight (seg rest 7 11) w' (by rw [seg_length (by omega)]; omega))
                    have HW3 := Lib.hid (fun w' => elWeight (seg rest 12 16) w' (by rw [seg_length (by omega)]; omega))
                    have g1 : ∀ w', (Instr.slice 9 (.string ⟨rest.toArray⟩) (some (.int .i64 2)) (some (.int .i64 6)) none).run Tryz.prog w' = .ok (.string ⟨(seg rest 2 6).toArray⟩) w' := fun w' => strSeg rest (j := 2) (k := 6) (by omega) (by omega) w'
                    have g2 : ∀ w', (Instr.slice 9 (.string ⟨rest.toArray⟩) (some (.int .i64 7)) (some (.int .i64 11)) none).run Tryz.prog w' = .ok (.string ⟨(seg rest 7 11).toArray⟩) w' := fun w' => strSeg rest (j := 7) (k := 11) (by omega) (by omega) w'
                    have g3 : ∀ w', (Instr.slice 9 (.string ⟨rest.toArray⟩) (some (.int .i64 12)) (some (.int .i64 16)) none).run Tryz.prog w' = .ok (.string ⟨(seg rest 12 16).toArray⟩) w' := fun w' => strSeg rest (j := 12) (k := 16) (by omega) (by omega) w'
                    have g4 : ∀ w', (Instr.slice 9 (.string ⟨rest.toArray⟩) (some (.int .i64 17)) none none).run Tryz.prog w' = .ok (.string ⟨(rest.drop 17).toArray⟩) w' := fun w' => strLo rest (j := 17) (by omega) w'
                    generalize numL (seg rest 2 6) 0 = m1 at HW1 hef
                    generalize numL (seg rest 7 11) 0 = m2 at HW2 hef
                    generalize numL (seg rest 12 16) 0 = m3 at HW3 hef
                    by_cases hall : m1.isSome = true ∧ m2.isSome = true ∧ m3.isSome = true
                    · obtain ⟨b1, b2, b3⟩ := hall
                      obtain ⟨p, rfl⟩ := Option.isSome_iff_exists.1 b1
                      obtain ⟨q, rfl⟩ := Option.isSome_iff_exists.1 b2
                      obtain ⟨r, rfl⟩ := Option.isSome_iff_exists.1 b3
                      have hel : elemT (rest.take 17) = some ⟨p, q, r, false⟩ := hef
                      have HR2 := Lib.hid (read_good HR.out h17 hel)
                      have hdl : (rest.drop 17).length = rest.length - 17 := by simp
                      have hsz := hbr.size
                      obtain ⟨Av, cv, rfl, _⟩ := HO.out.form
                      dsimp only [Option.getD_some, Option.isSome_some] at HW1 HW2 HW3
                      clear b1 b2 b3 hef hel
                      generalize rest.drop 17 = rest2 at g4 HR2 hdl
                      go_wp2_with fail
                      refine (HW1.out _).mono ?_
                      rintro e w1 ⟨rfl, rfl⟩
                      go_wp2_with fail
                      refine (HW2.out _).mono ?_
                      rintro e w1 ⟨rfl, rfl⟩
                      go_wp2_with fail
                      refine (HW3.out _).mono ?_
                      rintro e w1 ⟨rfl, rfl⟩
                      go_wp2_with (at_builtin; refine wpE rfl _ _ rfl w.heap.size rfl HO.out ⟨p, q, r, false⟩ rfl ?hl6 ?hb6 ?_)
                      case hl6 => omega
                      case hb6 => omega
                      intro v' w6 HO6 hb6
                      have hb06 := hb6 w hbr
                      clear hb6
                      have hl7 : (acc ++ [(⟨p, q, r, false⟩ : ElemD)]).length = acc.length + 1 := by simp
                      generalize acc ++ [(⟨p, q, r, false⟩ : ElemD)] = acc2 at HO6 HR2 hl7
                      have Hdl := Lib.hid hdl
                      have Hl7 := Lib.hid hl7
                      clear hdl hl7
                      go_wp2_with fail
                      go_roundw
                      case rel => exact ⟨rest2, acc2, rfl, by have := Hdl.out; omega, by have := Hdl.out; omega, by have := Hl7.out; omega, by have := Hl7.out; have := Hdl.out; omega, HO6, HR2, hb06⟩
                      case measure => have := Hdl.out; simp [strLen_mk]; omega
                    · have hel : elemT (rest.take 17) = none := by
                        rw [hef]
                        cases m1 <;> cases m2 <;> cases m3 <;> simp at hall ⊢
                      have Hel := Lib.hid hel
                      clear hel
                      clear hef
                      cases m1 <;> cases m2 <;> cases m3
                      case some.some.some => exact absurd ⟨rfl, rfl, rfl⟩ hall
                      all_goals
                        clear hall
                        dsimp only [Option.getD_none, Option.getD_some, Option.isSome_none, Option.isSome_some] at HW1 HW2 HW3
                        go_wp2_with fail
                        refine (HW1.out _).mono ?_
                        rintro e w1 ⟨rfl, rfl⟩
                        go_wp2_with fail
                        refine (HW2.out _).mono ?_
                        rintro e w1 ⟨rfl, rfl⟩
                        go_wp2_with fail
                        refine (HW3.out _).mono ?_
                        rintro e w1 ⟨rfl, rfl⟩
                        go_wp2_with fail
                        go_ret2
                        exact ⟨by unfold ReadOut; rw [read_bad HR.out h17 Hel.out]; rfl, hbr⟩
                  · have f1 : ((btN rest 1 : Int) != 46) = true := by simp; omega
                    have f2 : ((btN rest 1 : Int) != 42) = false := by simp; omega
                    have f3 : ((btN rest 1 : Int) == 42) = true := by simp; omega
                    rw [f3] at hef
                    have Q1 := Lib.hid q1
                    clear q1
                    have HW1 := Lib.hid (fun w' => elWeight (seg rest 2 6) w' (by rw [seg_length (by omega)]; omega))
                    have HW2 := Lib.hid (fun w' => elWeight (seg rest 7 11) w' (by rw [seg_length (by omega)]; omega))
                    have HW3 := Lib.hid (fun w' => elWeight (seg rest 12 16) w' (by rw [seg_length (by omega)]; omega))
                    have g1 : ∀ w', (Instr.slice 9 (.string ⟨rest.toArray⟩) (some (.int .i64 2)) (some (.int .i64 6)) none).run Tryz.prog w' = .ok (.string ⟨(seg rest 2 6).toArray⟩) w' := fun w' => strSeg rest (j := 2) (k := 6) (by omega) (by omega) w'
                    have g2 : ∀ w', (Instr.slice 9 (.string ⟨rest.toArray⟩) (some (.int .i64 7)) (some (.int .i64 11)) none).run Tryz.prog w' = .ok (.string ⟨(seg rest 7 11).toArray⟩) w' := fun w' => strSeg rest (j := 7) (k := 11) (by omega) (by omega) w'
                    have g3 : ∀ w', (Instr.slice 9 (.string ⟨rest.toArray⟩) (some (.int .i64 12)) (some (.int .i64 16)) none).run Tryz.prog w' = .ok (.string ⟨(seg rest 12 16).toArray⟩) w' := fun w' => strSeg rest (j := 12) (k := 16) (by omega) (by omega) w'
                    have g4 : ∀ w', (Instr.slice 9 (.string ⟨rest.toArray⟩) (some (.int .i64 17)) none none).run Tryz.prog w' = .ok (.string ⟨(rest.drop 17).toArray⟩) w' := fun w' => strLo rest (j := 17) (by omega) w'
                    generalize numL (seg rest 2 6) 0 = m1 at HW1 hef
                    generalize numL (seg rest 7 11) 0 = m2 at HW2 hef
                    generalize numL (seg rest 12 16) 0 = m3 at HW3 hef
                    by_cases hall : m1.isSome = true ∧ m2.isSome = true ∧ m3.isSome = true
                    · obtain ⟨b1, b2, b3⟩ := hall
                      obtain ⟨p, rfl⟩ := Option.isSome_iff_exists.1 b1
                      obtain ⟨q, rfl⟩ := Option.isSome_iff_exists.1 b2
                      obtain ⟨r, rfl⟩ := Option.isSome_iff_exists.1 b3
                      have hel : elemT (rest.take 17) = some ⟨p, q, r, true⟩ := hef
                      have HR2 := Lib.hid (read_good HR.out h17 hel)
                      have hdl : (rest.drop 17).length = rest.length - 17 := by simp
                      have hsz := hbr.size
                      obtain ⟨Av, cv, rfl, _⟩ := HO.out.form
                      dsimp only [Option.getD_some, Option.isSome_some] at HW1 HW2 HW3
                      clear b1 b2 b3 hef hel
                      generalize rest.drop 17 = rest2 at g4 HR2 hdl
                      go_wp2_with fail
                      refine (HW1.out _).mono ?_
                      rintro e w1 ⟨rfl, rfl⟩
                      go_wp2_with fail
                      refine (HW2.out _).mono ?_
                      rintro e w1 ⟨rfl, rfl⟩
                      go_wp2_with fail
                      refine (HW3.out _).mono ?_
                      rintro e w1 ⟨rfl, rfl⟩
                      go_wp2_with (at_builtin; refine wpE rfl _ _ rfl w.heap.size rfl HO.out ⟨p, q, r, true⟩ rfl ?hl6 ?hb6 ?_)
                      case hl6 => omega
                      case hb6 => omega
                      intro v' w6 HO6 hb6
                      have hb06 := hb6 w hbr
                      clear hb6
                      have hl7 : (acc ++ [(⟨p, q, r, true⟩ : ElemD)]).length = acc.length + 1 := by simp
                      generalize acc ++ [(⟨p, q, r, true⟩ : ElemD)] = acc2 at HO6 HR2 hl7
                      have Hdl := Lib.hid hdl
                      have Hl7 := Lib.hid hl7
                      clear hdl hl7
                      go_wp2_with fail
                      go_roundw
                      case rel => exact ⟨rest2, acc2, rfl, by have := Hdl.out; omega, by have := Hdl.out; omega, by have := Hl7.out; omega, by have := Hl7.out; have := Hdl.out; omega, HO6, HR2, hb06⟩
                      case measure => have := Hdl.out; simp [strLen_mk]; omega
                    · have hel : elemT (rest.take 17) = none := by
                        rw [hef]
                        cases m1 <;> cases m2 <;> cases m3 <;> simp at hall ⊢
                      have Hel := Lib.hid hel
                      clear hel
                      clear hef
                      cases m1 <;> cases m2 <;> cases m3
                      case some.some.some => exact absurd ⟨rfl, rfl, rfl⟩ hall
                      all_goals
                        clear hall
                        dsimp only [Option.getD_none, Option.getD_some, Option.isSome_none, Option.isSome_some] at HW1 HW2 HW3
                        go_wp2_with fail
                        refine (HW1.out _).mono ?_
                        rintro e w1 ⟨rfl, rfl⟩
                        go_wp2_with fail
                        refine (HW2.out _).mono ?_
                        rintro e w1 ⟨rfl, rfl⟩
                        go_wp2_with fail
                        refine (HW3.out _).mono ?_
                        rintro e w1 ⟨rfl, rfl⟩
                        go_wp2_with fail
                        go_ret2
                        exact ⟨by unfold ReadOut; rw [read_bad HR.out h17 Hel.out]; rfl, hbr⟩
                · have f16 : ((btN rest 16 : Int) != 93) = true := by simp; omega
                  have hel : elemT (rest.take 17) = none := by rw [hef, if_neg (fun h => q16 h.2.2.2.2)]
                  have Q0 := Lib.hid q0
                  have Q6 := Lib.hid q6
                  have Q11 := Lib.hid q11
                  have Q16 := Lib.hid q16
                  clear q0 q6 q11 q16
                  clear hef
                  rcases q1 with q1 | q1
                  · have f1 : ((btN rest 1 : Int) != 46) = false := by simp; omega
                    have Hel := Lib.hid hel
                    clear hel
                    go_wp2_with fail
                    go_ret2
                    exact ⟨by unfold ReadOut; rw [read_bad HR.out h17 Hel.out]; rfl, hbr⟩
                  · have f1 : ((btN rest 1 : Int) != 46) = true := by simp; omega
                    have f2 : ((btN rest 1 : Int) != 42) = false := by simp; omega
                    have Hel := Lib.hid hel
                    clear hel
                    go_wp2_with fail
                    go_ret2
                    exact ⟨by unfold ReadOut; rw [read_bad HR.out h17 Hel.out]; rfl, hbr⟩
              · have f11 : ((btN rest 11 : Int) != 46) = true := by simp; omega
                have hel : elemT (rest.take 17) = none := by rw [hef, if_neg (fun h => q11 h.2.2.2.1)]
                have Q0 := Lib.hid q0
                have Q6 := Lib.hid q6
                have Q11 := Lib.hid q11
                clear q0 q6 q11
                clear hef
                rcases q1 with q1 | q1
                · have f1 : ((btN rest 1 : Int) != 46) = false := by simp; omega
                  have Hel := Lib.hid hel
                  clear hel
                  go_wp2_with fail
                  go_ret2
                  exact ⟨by unfold ReadOut; rw [read_bad HR.out h17 Hel.out]; rfl, hbr⟩
                · have f1 : ((btN rest 1 : Int) != 46) = true := by simp; omega
                  have f2 : ((btN rest 1 : Int) != 42) = false := by simp; omega
                  have Hel := Lib.hid hel
                  clear hel
                  go_wp2_with fail
                  go_ret2
                  exact ⟨by unfold ReadOut; rw [read_bad HR.out h17 Hel.out]; rfl, hbr⟩
            · have f6 : ((btN rest 6 : Int) != 46) = true := by simp; omega
              have hel : elemT (rest.take 17) = none := by rw [hef, if_neg (fun h => q6 h.2.2.1)]
              have Q0 := Lib.hid q0
              have Q6 := Lib.hid q6
              clear q0 q6
              clear hef
              rcases q1 with q1 | q1
              · have f1 : ((btN rest 1 : Int) != 46) = false := by simp; omega
                have Hel := Lib.hid hel
                clear hel
                go_wp2_with fail
                go_ret2
                exact ⟨by unfold ReadOut; rw [read_bad HR.out h17 Hel.out]; rfl, hbr⟩
              · have f1 : ((btN rest 1 : Int) != 46) = true := by simp; omega
                have f2 : ((btN rest 1 : Int) != 42) = false := by simp; omega
                have Hel := Lib.hid hel
                clear hel
                go_wp2_with fail
                go_ret2
                exact ⟨by unfold ReadOut; rw [read_bad HR.out h17 Hel.out]; rfl, hbr⟩
          · have f1 : ((btN rest 1 : Int) != 46) = true := by simp; omega
            have f2 : ((btN rest 1 : Int) != 42) = true := by simp; omega
            have hel : elemT (rest.take 17) = none := by rw [hef, if_neg (fun h => q1 h.2.1)]
            have Q0 := Lib.hid q0
            have Q1 := Lib.hid q1
            clear q0 q1
            clear hef
            have Hel := Lib.hid hel
            clear hel
            go_wp2_with fail
            go_ret2
            exact ⟨by unfold ReadOut; rw [read_bad HR.out h17 Hel.out]; rfl, hbr⟩
        · have f0 : ((btN rest 0 : Int) != 91) = true := by simp; omega
          have hel : elemT (rest.take 17) = none := by rw [hef, if_neg (fun h => q0 h.1)]
          have Q0 := Lib.hid q0
          clear q0
          clear hef
          have Hel := Lib.hid hel
          clear hel
          go_wp2_with fail
          go_ret2
          exact ⟨by unfold ReadOut; rw [read_bad HR.out h17 Hel.out]; rfl, hbr⟩
  · have hne : (((l.length % 17 : Nat) : Int) != 0) = true := by simp; omega
    have HR := Lib.hid (readE_mod l.length (Nat.le_refl _) hm)
    generalize ((l.length % 17 : Nat) : Int) = mr at hmr hne
    go_enter Tryz.func22, Tryz.ntmps22
    go_wp2_with fail
    go_ret2
    exact ⟨by unfold ReadOut; rw [HR.out]; rfl, Below.refl _ _⟩
end Go.Proofs.YthogkokifiibnaaGreatDoor
