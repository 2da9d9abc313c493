/- LinesSpaces -/
import Derived.Test.YtafmdeipcepaiaaDoorLnP2
import Derived.Test.YtafmdeipcepaiaaDoorLnL2
namespace Go.Proofs.YtafmdeipcepaiaaDoor
open Go.RowKit Go.Sort

theorem splitL_mem {c : UInt8} : ∀ {l : List UInt8} {p : List UInt8}, p ∈ splitL c l → c ∉ p
  | [], p, h => by simp [splitL] at h; subst h; simp
  | b :: l, p, h => by
    by_cases hb : b = c
    · subst hb
      rw [splitL_hit] at h
      rcases List.mem_cons.1 h with rfl | h
      · simp
      · exact splitL_mem h
    · rw [splitL_miss hb] at h
      cases hs : splitL c l with
      | nil => exact absurd hs (splitL_ne c l)
      | cons q qs =>
        rw [hs] at h
        have h1 := splitL_mem (c := c) (l := l) (p := q) (by rw [hs]; simp)
        rcases List.mem_cons.1 h with rfl | h
        · intro hm
          rcases List.mem_cons.1 hm with e | hm
          · exact hb e.symm
          · exact h1 hm
        · exact splitL_mem (c := c) (l := l) (by rw [hs]; simp [h])
def sumW (ps : List (List UInt8)) : Nat := (ps.map fun p => p.length + 5).sum
theorem sumW_split (c : UInt8) : ∀ l : List UInt8, sumW (splitL c l) ≤ 5 * (l.length + 1)
  | [] => by simp [splitL, sumW]
  | b :: l => by
    have ih := sumW_split c l
    by_cases hb : b = c
    · subst hb
      rw [splitL_hit]
      simp only [sumW, List.map_cons, List.sum_cons, List.length_nil, List.length_cons] at ih ⊢
      omega
    · rw [splitL_miss hb]
      cases hs : splitL c l with
      | nil => exact absurd hs (splitL_ne c l)
      | cons q qs =>
        rw [hs] at ih
        simp only [sumW, List.map_cons, List.sum_cons, List.length_cons] at ih ⊢
        omega
theorem wide_free {p : List UInt8} (h : (10 : UInt8) ∉ p) : (10 : UInt8) ∉ wideL p := by simp [wideL, h]
def headW : List UInt8 := [35, 32, 48, 48, 52, 49, 59, 32, 120, 10, 32, 9, 10]
theorem splitL_headW : splitL 10 headW = [head1, head2, []] := by kernel_rfl

set_option maxHeartbeats 8000000 in
set_option maxRecDepth 100000 in
theorem lawLSpaces (l : List UInt8) (w : World) (hl : l.length ≤ 9223372036854775807) (hE : Env w) :
    Calls Tryd.prog 5 #[.string ⟨l.toArray⟩] w fun e w' => e = .returned (.bool true) ∧ Below w.heap.size w w' := by
  have HE := Lib.hid hE
  clear hE
  by_cases hlen : l.length ≤ 2000
  · have hd : decide ((2000 : Int) < l.length) = false := decide_eq_false (by omega)
    have HSp := Lib.hid (rfSplit9 10 l w (by omega))
    have HP1 := Lib.hid (fun w' (h : Env w') => lnParse l w' h (by omega))
    have hk := fltK_le l
    have hra := resL_length (l := l) (by omega)
    have HSa := Lib.hid (fun d (h : d ∈ resL l) => small_res h)
    have hea := fltE_or l
    have HW := Lib.hid (fun t (ht : t.length ≤ 65536) => wide_res (l := l) (t := t) (by omega) ht)
    have HM := Lib.hid (fun p (h : p ∈ splitL 10 l) => splitL_mem h)
    have HU := Lib.hid (sumW_split 10 l)
    have HPl := Lib.hid (splitL_piece_le 10 l)
    have hn0 : 0 < (splitL 10 l).length := by rw [splitL_length]; omega
    have hnl : (splitL 10 l).length ≤ 2001 := by
      rw [splitL_length]
      have := List.count_le_length (a := (10 : UInt8)) (l := l)
      omega
    generalize splitL 10 l = ps at HSp HW HM HU HPl hn0 hnl
    go_enter Tryd.func5, Tryd.ntmps5
    go_wp2_with fail
    refine HSp.out.mono ?_
    rintro e w1 ⟨⟨A0, c0, rfl, hA0, _⟩, hb1⟩
    have HA0 := Lib.hid hA0
    have Hea := Lib.hid hea
    have Hb1 := Lib.hid hb1
    clear hA0 hea hb1
    go_wp2_with fail
    go_loop [3, 5] (fun s i => ∃ (k : Nat) (acc : List UInt8), k ≤ ps.length ∧ i = .int .i64 k ∧ s = .string ⟨acc.toArray⟩ ∧ Hid (splitL 10 acc = head1 :: head2 :: (if k = 0 then [[]] else (ps.take k).map wideL)) ∧ Hid (acc.length + sumW (ps.drop k) ≤ 13 + sumW ps)) (fun _ i => ps.length - (intOf i).toNat)
    case atStart => exact ⟨0, headW, Nat.zero_le _, rfl, rfl, Lib.hid (by rw [splitL_headW]; rfl), Lib.hid (by simp [headW])⟩
    case round =>
      obtain ⟨k, acc, hk', rfl, rfl, HA, HL⟩ := hrel
      by_cases hlt : k < ps.length
      · obtain ⟨b1, o1, rfl, h1, e1⟩ := HA0.out.at_ hlt
        have hfree := HM.out _ (piece_mem hlt)
        have hpl := HPl.out _ (piece_mem hlt)
        have hal : acc.length ≤ 20000 := by
          have h1 := HL.out
          have h2 := HU.out
          omega
        have hdr := drop_piece hlt
        have hst : (ps.take (k + 1)).map wideL = (ps.take k).map wideL ++ [wideL (piece ps k)] := by rw [List.take_add_one, List.map_append]; simp [piece, hlt]
        generalize piece ps k = p at e1 hfree hdr hst hpl
        have hki : (k : Int) < ps.length := by omega
        have hw : (⟨#[32, 9]⟩ : ByteArray) ++ ⟨p.toArray⟩ ++ ⟨#[32, 13]⟩ = ⟨(wideL p).toArray⟩ := by
          have h2 : (⟨#[32, 9]⟩ : ByteArray) ++ ⟨p.toArray⟩ = ⟨([32, 9] ++ p).toArray⟩ := ba_app [32, 9] p
          have h3 : (⟨([32, 9] ++ p).toArray⟩ : ByteArray) ++ ⟨#[32, 13]⟩ = ⟨([32, 9] ++ p ++ [32, 13]).toArray⟩ := ba_app ([32, 9] ++ p) [32, 13]
          rw [h2, h3]
          rfl
        have hwf := wide_free hfree
        have hwl : (wideL p).length = p.length + 4 := by simp [wideL]
        have hsw : sumW (ps.drop k) = p.length + 5 + sumW (ps.drop (k + 1)) := by rw [hdr]; simp [sumW]
        generalize wideL p = q at hw hwf hwl hst
        have hql : q.length ≤ 3000 := by omega
        have Hfree := Lib.hid hfree
        have Hdr := Lib.hid hdr
        have Hst := Lib.hid hst
        have Hwf := Lib.hid hwf
        have Hwl := Lib.hid hwl
        have Hsw := Lib.hid hsw
        clear hfree hdr hst hwf hwl hsw
        by_cases hz : k = 0
        · subst hz
          have hc1 := ba_app acc q
          rw [Nat.add_zero] at e1
          have Hn := Lib.hid (show splitL 10 (acc ++ q) = head1 :: head2 :: (ps.take (0 + 1)).map wideL by
            rw [splitL_app Hwf.out, HA.out, Hst.out]
            simp [lastP])
          have Hm := Lib.hid (show (acc ++ q).length + sumW (ps.drop (0 + 1)) ≤ 13 + sumW ps by
            have h1 := HL.out
            rw [Hsw.out] at h1
            rw [List.length_append, Hwl.out]
            omega)
          generalize acc ++ q = acc' at hc1 Hn Hm
          go_wp2_with fail
          go_round
          case rel => exact ⟨1, acc', by omega, by simp, rfl, Hn, Hm⟩
          case measure => simp [intOf]; omega
        · have hk0 : 0 < k := by omega
          have hc1 : (⟨acc.toArray⟩ : ByteArray) ++ ⟨#[10]⟩ = ⟨(acc ++ [10]).toArray⟩ := ba_app acc [10]
          have hc2 := ba_app (acc ++ [10]) q
          have Hn := Lib.hid (show splitL 10 (acc ++ [10] ++ q) = head1 :: head2 :: (ps.take (k + 1)).map wideL by
            rw [List.append_assoc, List.singleton_append, splitL_join, HA.out, Hst.out, splitL_free Hwf.out, if_neg hz]
            simp)
          have Hm := Lib.hid (show (acc ++ [10] ++ q).length + sumW (ps.drop (k + 1)) ≤ 13 + sumW ps by
            have h1 := HL.out
            rw [Hsw.out] at h1
            rw [List.length_append, List.length_append, Hwl.out]
            simp only [List.length_singleton]
            omega)
          generalize acc ++ [10] ++ q = acc' at hc2 Hn Hm
          have hal1 : (acc ++ [10]).length ≤ 20001 := by simp; omega
          generalize acc ++ [10] = acc1 at hc1 hc2 hal1
          go_wp2_with fail
          go_round
          case rel => exact ⟨k + 1, acc', by omega, by go_num, rfl, by rw [if_neg (by omega)]; exact Hn, Hm⟩
          case measure => simp [intOf]; omega
      · obtain rfl : k = ps.length := by omega
        have hki : ¬ (ps.length : Int) < ps.length := by omega
        have hal : acc.length ≤ 65536 := by
          have h1 := HL.out
          have h2 := HU.out
          omega
        have hsp : splitL 10 acc = head1 :: head2 :: ps.map wideL := by rw [HA.out, if_neg (by omega), List.take_length]
        obtain ⟨j1, j2, j3, j4⟩ := HW.out acc hal hsp
        have HE1 := Lib.hid (HE.out.keep Hb1.out)
        have HP2 := Lib.hid (fun w' (h : Env w') => lnParse acc w' h hal)
        clear hsp HA HL HW hal
        go_wp2_with fail
        refine (HP1.out _ HE1.out).mono ?_
        rintro e w2 ⟨hO, hb2⟩
        obtain ⟨A, ca, rfl, hA, _⟩ := hO.out
        have H2 := Lib.hid (bUp Hb1.out hb2)
        have HA2 := Lib.hid hA
        clear hO hA hb2
        have F1 := Lib.hid (Blk.new w2 #[.int .i64 (fltE l), .int .i64 (fltK l)] 26)
        have HE2 := Lib.hid (fun o => HE.out.keep (bUp H2.out (bBox w2 o)))
        go_wp2_with fail
        refine (HP2.out _ (HE2.out _)).mono ?_
        rintro e w3 ⟨hO, hb3⟩
        obtain ⟨B, cb, rfl, hB, _⟩ := hO.out
        have h23 := bUp (bBox w2 _) hb3
        have H3 := Lib.hid (bUp H2.out h23)
        have HA3 := Lib.hid (HA2.out.keep h23)
        rw [j4] at hB ⊢
        rw [shiftL_length]
        rw [j1]
        have HB := Lib.hid hB
        have f1 := F1.out.keep hb3
        have x1 := f1.cell 0
        have x2 := f1.cell 1
        have x3 := f1.lt
        clear hO hB h23 hb3 f1 F1 HE2 j4 j1
        rcases Hea.out with ea | ea
        · have j2 := j2 ea
          clear j3
          go_wp2_with fail
          refine (lnAlive _ (HE.out.keep (bUp H3.out (bBox _ _)))).mono ?_
          rintro e w6 ⟨rfl, hb6⟩
          go_wp2_with fail
          go_ret
          exact ⟨rfl, bUp (bUp H3.out (bBox _ _)) hb6⟩
        · have j3 := j3 ea
          clear j2
          have HS1 := Lib.hid (fun o => rfSame 2 (resL l) A B ca cb (w3.alloc o) (HA3.out.keep (bBox _ _)) (HB.out.keep (bBox _ _)) (by omega) (by omega) (fun d hd => by have := (HSa.out d hd).num; omega) (fun d hd => by have := (HSa.out d hd).cnt; omega))
          go_wp2_with fail
          refine (HS1.out _).mono ?_
          rintro e w5 ⟨rfl, hb5⟩
          have h05 := bUp (bUp H3.out (bBox w3 _)) hb5
          go_wp2_with fail
          refine (lnAlive _ (HE.out.keep h05)).mono ?_
          rintro e w6 ⟨rfl, hb6⟩
          go_wp2_with fail
          go_ret
          exact ⟨rfl, bUp h05 hb6⟩
  · have hd : decide ((2000 : Int) < l.length) = true := decide_eq_true (by omega)
    go_enter Tryd.func5, Tryd.ntmps5
    go_wp2_with fail
    refine (lnAlive _ HE.out).mono ?_
    rintro e w1 ⟨rfl, hb1⟩
    go_wp2_with fail
    go_ret
    exact ⟨rfl, hb1⟩
end Go.Proofs.YtafmdeipcepaiaaDoor
