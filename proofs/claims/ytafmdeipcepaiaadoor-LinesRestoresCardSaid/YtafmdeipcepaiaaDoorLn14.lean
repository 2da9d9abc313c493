/- lines.Check -/
import Derived.Test.YtafmdeipcepaiaaDoorLn13
namespace Go.Proofs.YtafmdeipcepaiaaDoor
open Go.RowKit Go.Sort

def sepB (b : UInt8) : Bool := b == 59 || b == 35 || b == 10
def fieldOk (f : List UInt8) : Bool := !f.any sepB && trimL f == f
def comOk (c : List UInt8) : Bool := !c.contains 10 && trimL c == c
/-- the error of a line -/
def chkL (d : LineD) : Int := if validB d.lo && validB d.hi && decide (d.lo ≤ d.hi) then (if d.fields.all fieldOk && comOk d.com then 0 else 3) else 1
/-- strings.ContainsAny(f, ";#\n") answers as it should -/
def AnyOk (f : List UInt8) : Prop := ∀ w : World, Calls Tryd.prog 33 #[.string ⟨f.toArray⟩, .string ⟨#[59, 35, 10]⟩] w fun e w' => e = .returned (.bool (f.any sepB)) ∧ Below w.heap.size w w'
theorem containsNl (c : List UInt8) (w : World) : Calls Tryd.prog 34 #[.string ⟨c.toArray⟩, .string ⟨#[10]⟩] w fun e w' => e = .returned (.bool (c.contains 10)) ∧ w = w' := by
  refine (Tryd.strings_Contains_one ⟨c.toArray⟩ 10 w).mono ?_
  rintro e w' ⟨rfl, rfl⟩
  refine ⟨?_, rfl⟩
  rw [show (ByteArray.mk c.toArray).data.toList = c from rfl, ← Lib.contains_iff_indexByte]
theorem anyAscii {f : List UInt8} (h : f.all (fun b => decide (b.toNat < 128)) = true) (hl : f.length ≤ 65536) : AnyOk f := by
  intro w
  refine (Tryd.strings_ContainsAny_laid ⟨f.toArray⟩ ⟨#[59, 35, 10]⟩ w (by simp [ByteArray.size]; omega) (by decide) ?_ ?_).mono ?_
  · intro j b hb
    have := List.all_eq_true.1 h b (List.mem_of_getElem? hb)
    simpa using this
  · intro j b hb
    have : b ∈ [(59 : UInt8), 35, 10] := List.mem_of_getElem? hb
    simp at this
    rcases this with rfl | rfl | rfl <;> decide
  · rintro e w' ⟨rfl, hb⟩
    refine ⟨?_, hb⟩
    congr 2
    clear h hl hb
    have hc : ∀ b : UInt8, [(59 : UInt8), 35, 10].contains b = sepB b := fun b => by simp only [List.contains_cons, List.contains_nil, Bool.or_false, sepB, Bool.or_assoc]
    show Lib.containsAny f [59, 35, 10] = _
    unfold Lib.containsAny
    induction f with
    | nil => rfl
    | cons b r ih =>
      have := Lib.indexAny_ge [59, 35, 10] r
      rw [Lib.indexAny, hc, List.any_cons, ← ih]
      cases sepB b
      · simp only [Bool.false_or, Bool.false_eq_true, if_false]
        split
        · rename_i h1; have h1 := beq_iff_eq.1 h1; rw [h1]
        · rename_i h1; simp at h1; congr 1; simp; omega
      · simp

set_option maxHeartbeats 8000000 in
set_option maxRecDepth 100000 in
theorem lnCheck (d : LineD) (A : Option Addr) (cp : Nat) (w : World) (hA : StrsAt w A d.fields) (hl : d.fields.length ≤ 100000) (hf : ∀ f ∈ d.fields, f.length ≤ 65536 ∧ AnyOk f) (hc : d.com.length ≤ 65536) :
    Calls Tryd.prog 16 #[.agg #[.int .i64 d.num, .int .i64 d.lo, .int .i64 d.hi, .slice A d.fields.length cp, .string ⟨d.com.toArray⟩]] w fun e w' => e = .returned (.int .i64 (chkL d)) ∧ Below w.heap.size w w' := by
  obtain ⟨num, lo, hi, fs, com⟩ := d
  dsimp only at hA hl hf hc ⊢
  have HA := Lib.hid hA
  have HF := Lib.hid hf
  have HT := Lib.hid (fun w' => goTrim com w' (by omega))
  have HC := Lib.hid (fun w' => containsNl com w')
  clear hA hf hc
  go_enter Tryd.func16, Tryd.ntmps16
  cases h1 : validB lo with
  | false =>
    have V1 := Lib.hid (fun w' => cpValid lo w')
    rw [h1] at V1
    go_wp2_with fail
    refine (V1.out _).mono ?_
    rintro e w1 ⟨rfl, rfl⟩
    go_wp2_with fail
    go_ret
    exact ⟨by simp [chkL, h1], bBox w _⟩
  | true =>
    cases h2 : validB hi with
    | false =>
      have V1 := Lib.hid (fun w' => cpValid lo w')
      have V2 := Lib.hid (fun w' => cpValid hi w')
      rw [h1] at V1
      rw [h2] at V2
      go_wp2_with fail
      refine (V1.out _).mono ?_
      rintro e w1 ⟨rfl, rfl⟩
      go_wp2_with fail
      refine (V2.out _).mono ?_
      rintro e w1 ⟨rfl, rfl⟩
      go_wp2_with fail
      go_ret
      exact ⟨by simp [chkL, h2], bBox w _⟩
    | true =>
      have V1 := Lib.hid (fun w' => cpValid lo w')
      have V2 := Lib.hid (fun w' => cpValid hi w')
      rw [h1] at V1
      rw [h2] at V2
      by_cases h3 : lo ≤ hi
      · have h3' : decide (hi < lo) = false := decide_eq_false (by omega)
        go_wp2_with fail
        refine (V1.out _).mono ?_
        rintro e w1 ⟨rfl, rfl⟩
        go_wp2_with fail
        refine (V2.out _).mono ?_
        rintro e w1 ⟨rfl, rfl⟩
        go_wp2_with fail
        go_loopw [25] (fun i wr => ∃ k : Nat, k ≤ fs.length ∧ i = .int .i64 k ∧ Hid ((fs.take k).all fieldOk = true) ∧ Hid (Blk wr w.heap.size #[.int .i64 num, .int .i64 lo, .int .i64 hi, .slice A fs.length cp, .string ⟨com.toArray⟩] 35) ∧ Below w.heap.size w wr) (fun i _ => fs.length - (intOf i).toNat)
        case atStart => exact ⟨0, Nat.zero_le _, rfl, Lib.hid rfl, Lib.hid (Blk.new w _ _), bBox w _⟩
        case round =>
          obtain ⟨k, hk, rfl, HK, HX, hbr⟩ := hrel
          by_cases hlt : k < fs.length
          · obtain ⟨b1, o1, rfl, h4, e4⟩ := (HA.out.keep hbr).at_ hlt
            have hfm := HF.out _ (piece_mem hlt)
            have hst : fs.take (k + 1) = fs.take k ++ [piece fs k] := by rw [List.take_add_one]; simp [piece, hlt]
            have hbad : fieldOk (piece fs k) = false → fs.all fieldOk = false := fun h => by
              rw [← Bool.not_eq_true]
              intro h'
              rw [List.all_eq_true.1 h' _ (piece_mem hlt)] at h
              cases h
            generalize piece fs k = f at e4 hfm hst hbad
            have HC1 := Lib.hid (hfm.2)
            have HT1 := Lib.hid (fun w' => goTrim f w' (by omega))
            have hki : (k : Int) < fs.length := by omega
            have Hfm := Lib.hid hfm
            have Hst := Lib.hid hst
            clear hfm hst
            cases ha : f.any sepB with
            | true =>
              have hr := hbad (by simp [fieldOk, ha])
              have Hbad := Lib.hid hbad
              clear hbad
              unfold AnyOk at HC1
              rw [ha] at HC1
              go_wp2_with fail
              refine (HC1.out _).mono ?_
              rintro e w5 ⟨rfl, hb5⟩
              go_wp2_with fail
              go_ret
              exact ⟨by simp [chkL, h1, h2, h3, hr], hbr.trans (hb5.mono hbr.size)⟩
            | false =>
              unfold AnyOk at HC1
              rw [ha] at HC1
              by_cases ht : trimL f = f
              · have hok : fieldOk f = true := by simp [fieldOk, ha, ht]
                rw [ht] at HT1
                have Hbad := Lib.hid hbad
                have Ht := Lib.hid ht
                clear hbad ht
                go_wp2_with fail
                refine (HC1.out _).mono ?_
                rintro e w5 ⟨rfl, hb5⟩
                go_wp2_with fail
                refine (HT1.out _).mono ?_
                rintro e w6 ⟨rfl, hb6⟩
                go_wp2_with fail
                have hb56 := bUp hb5 hb6
                go_roundw
                case rel => exact ⟨k + 1, by omega, by go_num, Lib.hid (by rw [Hst.out, List.all_append, HK.out]; simp [hok]), Lib.hid (HX.out.keep hb56), hbr.trans (hb56.mono hbr.size)⟩
                case measure => simp [intOf]; omega
              · have hr := hbad (by simp [fieldOk, ht])
                have hne : (f == trimL f) = false := by simp; exact fun e => ht e.symm
                have Hbad := Lib.hid hbad
                have Ht := Lib.hid ht
                clear hbad ht
                go_wp2_with fail
                refine (HC1.out _).mono ?_
                rintro e w5 ⟨rfl, hb5⟩
                go_wp2_with fail
                refine (HT1.out _).mono ?_
                rintro e w6 ⟨rfl, hb6⟩
                go_wp2_with fail
                go_ret
                exact ⟨by simp [chkL, h1, h2, h3, hr], hbr.trans ((bUp hb5 hb6).mono hbr.size)⟩
          · obtain rfl : k = fs.length := by omega
            have hall : fs.all fieldOk = true := by have := HK.out; rwa [List.take_length] at this
            have hki : ¬ (fs.length : Int) < fs.length := by omega
            have c4 := cell_regrown (HX.out.cell 4)
            have CC := Lib.hid (fun dq osq => Calls.regrown_of (w := wr) (d := dq) (os := osq) ((HC.out (grow (redrawn wr dq) osq)).mono (by rintro e w' ⟨rfl, rfl⟩; exact ⟨rfl, Below.refl _ _⟩)))
            have CT := Lib.hid (fun dq osq => Calls.regrown_of (w := wr) (d := dq) (os := osq) (HT.out (grow (redrawn wr dq) osq)))
            cases ha : com.contains 10 with
            | true =>
              rw [ha] at CC
              have hcom : comOk com = false := by unfold comOk; rw [ha]; rfl
              have Ha := Lib.hid ha
              clear ha
              go_wp2_with fail
              refine wp_region_quiet_below (by kernel_rfl) (by kernel_rfl) ?_
              repeat (go_big_quiet_step (exact CC.out _ _))
              refine wpQuiet_nil ?_
              rintro _ ⟨⟨dq, osq⟩, rfl⟩
              have hb6 := below_regrown wr dq osq
              generalize grow (redrawn wr dq) osq = w6 at hb6 ⊢
              go_wp2_with fail
              go_ret
              exact ⟨by simp [chkL, h1, h2, h3, hall, hcom], bUp hbr hb6⟩
            | false =>
              rw [ha] at CC
              by_cases ht : trimL com = com
              · rw [ht] at CT
                have hcom : comOk com = true := by unfold comOk; rw [ha, ht]; simp
                have Ht := Lib.hid ht
                have Ha := Lib.hid ha
                clear ht ha
                go_wp2_with fail
                refine wp_region_quiet_below (by kernel_rfl) (by kernel_rfl) ?_
                repeat (go_big_quiet_step (first | exact CC.out _ _ | exact CT.out _ _))
                refine wpQuiet_nil ?_
                rintro _ ⟨⟨dq, osq⟩, rfl⟩
                have hb6 := below_regrown wr dq osq
                generalize grow (redrawn wr dq) osq = w6 at hb6 ⊢
                go_wp2_with fail
                go_ret
                exact ⟨by simp [chkL, h1, h2, h3, hall, hcom], bUp hbr hb6⟩
              · have hcom : comOk com = false := by unfold comOk; simp [ht]
                have hne : (com == trimL com) = false := by simp; exact fun e => ht e.symm
                have Ht := Lib.hid ht
                have Ha := Lib.hid ha
                clear ht ha
                go_wp2_with fail
                refine wp_region_quiet_below (by kernel_rfl) (by kernel_rfl) ?_
                repeat (go_big_quiet_step (first | exact CC.out _ _ | exact CT.out _ _))
                refine wpQuiet_nil ?_
                rintro _ ⟨⟨dq, osq⟩, rfl⟩
                have hb6 := below_regrown wr dq osq
                generalize grow (redrawn wr dq) osq = w6 at hb6 ⊢
                go_wp2_with fail
                go_ret
                exact ⟨by simp [chkL, h1, h2, h3, hall, hcom], bUp hbr hb6⟩
      · have h3' : decide (hi < lo) = true := decide_eq_true (by omega)
        go_wp2_with fail
        refine (V1.out _).mono ?_
        rintro e w1 ⟨rfl, rfl⟩
        go_wp2_with fail
        refine (V2.out _).mono ?_
        rintro e w1 ⟨rfl, rfl⟩
        go_wp2_with fail
        go_ret
        exact ⟨by unfold chkL; dsimp only; rw [show decide (lo ≤ hi) = false from decide_eq_false (by omega)]; simp, bBox w _⟩
end Go.Proofs.YtafmdeipcepaiaaDoor
