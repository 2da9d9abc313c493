/- lines.Parse -/
import Derived.Test.YtafmdeipcepaiaaDoorLn8
namespace Go.Proofs.YtafmdeipcepaiaaDoor
open Go.RowKit Go.Shelf Go.Sort
attribute [local go_sem] Oper.semAt_some

/-- what the round calls first: the cut at the comment -/
theorem cutComment (p : List UInt8) (hp : p.length ≤ 65536) : ∃ b c fl, (∀ w, Env w → Calls Tryd.prog 22 #[.string ⟨p.toArray⟩, .string ⟨#[35]⟩] w fun e w' => e = .returned (.tuple #[.string ⟨b.toArray⟩, .string ⟨c.toArray⟩, .bool fl]) ∧ Below w.heap.size w w') ∧ commentP p = (b, trimL c) ∧ b.length ≤ 65536 ∧ c.length ≤ 65536 := by
  cases h : cutB 35 p with
  | none => exact ⟨p, [], false, fun w hE => cutNo h w hE (by omega), by simp only [commentP, h]; rfl, hp, by simp⟩
  | some q =>
    obtain ⟨d, r⟩ := q
    have hlen := congrArg List.length (cutB_some h).1
    simp only [List.length_append, List.length_cons] at hlen
    exact ⟨d, r, true, fun w hE => cutYes h w hE (by omega), by simp only [commentP, h], by omega, by omega⟩
theorem splitL_cons (c : UInt8) (l : List UInt8) : ∃ p ps, splitL c l = p :: ps := by
  cases h : splitL c l with
  | nil => exact absurd h (splitL_ne c l)
  | cons p ps => exact ⟨p, ps, rfl⟩

set_option maxHeartbeats 8000000 in
set_option maxRecDepth 100000 in
theorem lnParse (l : List UInt8) (w : World) (hE : Env w) (hl : l.length ≤ 65536) :
    Calls Tryd.prog 11 #[.string ⟨l.toArray⟩] w fun e w' => ParseOut w' w.heap.size l e ∧ Below w.heap.size w w' := by
  have hgd : decide ((65536 : Int) < l.length) = false := by simp; omega
  have HE := Lib.hid hE
  clear hE
  refine (callsIn_wide (n := 5)).1 ?_
  refine callsIn_of_wp_marks Tryd.func11 rfl trivial ?_ rfl
  simp only [Tryd.ntmps11, List.size_toArray, List.length_cons, List.length_nil, Nat.reduceAdd, Nat.reduceSub, Array.replicate_succ, Array.replicate_zero, List.push_toArray, List.append_toArray, List.nil_append, List.cons_append]
  gi_wp2_with fail
  refine ⟨trivial, (callsIn_wide.2 (lnNumbered l _)).mono ?_⟩
  rintro e w3 ⟨rfl, hw3⟩
  have hI0 : InvP w.heap.size w l [] (.slice none 0 0) w3 := by
    rw [← hw3]
    have s1 : (w.alloc (.cells #[.slice none 0 0] 23)).heap.size = w.heap.size + 1 := by simp
    have s2 : ((w.alloc (.cells #[.slice none 0 0] 23)).alloc (.cells #[.int .i64 0, .int .i64 0] 26)).heap.size = w.heap.size + 2 := by simp
    have s3 : (((w.alloc (.cells #[.slice none 0 0] 23)).alloc (.cells #[.int .i64 0, .int .i64 0] 26)).alloc (.cells #[.slice none 0 0] 23)).heap.size = w.heap.size + 3 := by simp
    have b0 := Blk.new w #[.slice none 0 0] 23
    have b1 := Blk.new (w.alloc (.cells #[.slice none 0 0] 23)) #[.int .i64 0, .int .i64 0] 26
    have b2 := Blk.new ((w.alloc (.cells #[.slice none 0 0] 23)).alloc (.cells #[.int .i64 0, .int .i64 0] 26)) #[.slice none 0 0] 23
    have b3 := Blk.new (((w.alloc (.cells #[.slice none 0 0] 23)).alloc (.cells #[.int .i64 0, .int .i64 0] 26)).alloc (.cells #[.slice none 0 0] 23)) #[.string ⟨l.toArray⟩] 9
    rw [s1] at b1
    rw [s2] at b2
    rw [s3] at b3
    exact ⟨((b0.alloc _).alloc _).alloc _, (b1.alloc _).alloc _, b2.alloc _, b3, OwnL.nil _ _, ((((Below.refl _ w).alloc (Nat.le_refl _) _).alloc (by simp) _).alloc (by simp; omega) _).alloc (by simp; omega) _⟩
  have Hsz3 := Lib.hid (show w3.heap.size = w.heap.size + 4 by rw [← hw3]; simp)
  have HI0 := Lib.hid hI0
  clear hI0 hw3
  gi_wp2_with fail
  refine wpIn_rangeFunc_ownG rfl (by omega) (gf := 40) (lb := #[.pointer (some ⟨w.heap.size + 3, 0, none⟩)]) rfl trivial (enters_of Tryd.func40 (by kernel_rfl) rfl)
    (numbered1 4 (by omega) (w.heap.size + 3) l w _ HI0.out.str HE.out HI0.out.bel hl) KpB.trans (fun W k o o' hk h _ _ => KpB.put (s := w.heap.size + 4) (by omega) (by omega) W k o o' (by rw [Hsz3.out] at hk; exact hk) h) (Below.refl _ _) (fun _ => rfl)
    (fun pre W => badL pre = none ∧ ∃ v, InvP w.heap.size w l (goodL pre) v W)
    (fun c pre W => (c = .ret ∧ ∃ pre0 x, pre = pre0 ++ [x] ∧ badL pre0 = none ∧ lineQ x.1 = none ∧ Blk W w.heap.size #[.slice none 0 0] 23 ∧ Blk W (w.heap.size + 1) #[.int .i64 3, .int .i64 x.1.1] 26 ∧ Below w.heap.size w W))
    (invP_own _ _ _ _ (by rw [Hsz3.out]; omega) (fun pre => badL pre = none) goodL)
    ?ownx
    ⟨rfl, _, HI0.out⟩
    (fun x => { tmps := #[.string ⟨l.toArray⟩, undef, .pointer (some ⟨w.heap.size, 0, none⟩), .pointer (some ⟨w.heap.size + 1, 0, none⟩), .pointer (some ⟨w.heap.size + 1 + 1, 0, none⟩), .int .i64 x.1.1, .string ⟨x.1.2.toArray⟩, undef, undef, undef, undef, undef, undef, undef,
          .string ⟨l.toArray⟩, .int .i64 l.length, .bool false, undef, .string ⟨l.toArray⟩, .func (.func 40) #[] #[.pointer (some ⟨w.heap.size + 1 + 1 + 1, 0, none⟩)], .int .i64 x.1.1, .string ⟨x.1.2.toArray⟩, undef, undef, undef, undef, undef, undef, undef, undef, undef, undef, undef, undef, undef, undef, undef, undef, undef, undef, undef, undef, undef, undef, undef, undef, undef, undef, undef, undef, undef, undef, undef, undef, undef, undef, undef, undef], defers := [] }) ?assign ?body ?done ?stop
  case ownx =>
    rintro c s W W' row ⟨rfl, pre0, x, e, h1, h2, h3, h4, h5⟩ hg hr
    have hne : ∀ k, k < w.heap.size + 4 → some k ≠ row := fun k hk e => by have := (hr k e.symm).1; rw [Hsz3.out] at this; omega
    exact ⟨rfl, pre0, x, e, h1, h2, h3.grown hg (hne _ (by omega)), h4.grown hg (hne _ (by omega)), h5.grown hg (Nat.le_of_lt h3.lt) (fun k e => by have := (hr k e).1; rw [Hsz3.out] at this; omega)⟩
  case assign =>
    intro l x W K hK
    gi_wp2
    exact hK
  case body =>
    rintro lp pre x W ⟨hbad, v, hI⟩ hlen
    obtain ⟨⟨k, p⟩, hk, hp⟩ := x
    dsimp only at hk hp
    obtain ⟨b, c, fl, hcut, hcm, hbl, hcl⟩ := cutComment p hp
    have HW := Lib.hid (HE.out.keep hI.bel)
    have HC := Lib.hid (hcut W HW.out)
    have hglen := goodL_le pre
    have hN : pre.length ≤ 65537 := by
      have := linesOf_length l
      unfold linesOf at this
      rw [enL_length] at this
      omega
    have HT := Lib.hid (fun w' => goTrim b w' (by omega))
    obtain ⟨Av, cv, rfl, hcv⟩ := hI.own.form
    have HI := Lib.hid hI
    clear hI hcut hcv
    dsimp only
    cases ht : trimL b with
    | nil =>
      have HQ := Lib.hid (show lineQ (k, p) = some none by simp [lineQ, hcm, ht])
      rw [ht] at HT
      have Hbad := Lib.hid hbad
      have Hcm := Lib.hid hcm
      have Ht := Lib.hid ht
      clear hbad hcm ht
      gi_wp2_with fail
      refine ⟨trivial, (CallsIn.inRound lp (callsIn_wide.2 HC.out)).mono ?_⟩
      rintro e w4 ⟨rfl, hb4⟩
      gi_wp2_with fail
      refine ⟨trivial, (CallsIn.inRound lp (callsIn_wide.2 (HT.out w4))).mono ?_⟩
      rintro e w5 ⟨rfl, hb5⟩
      gi_wp2_with fail
      have hb := bUp hb4 hb5
      have hs := HI.out.str.lt
      exact ⟨(others_of_below hb).from _, kpb_of_below hb (by omega) hs, bad_good Hbad.out HQ.out, _, by rw [good_skip HQ.out]; exact HI.out.keep hb⟩
    | cons t0 tr =>
      obtain ⟨q0, qs, hq⟩ := splitL_cons 59 b
      have hqle : q0.length ≤ 65536 := Nat.le_trans (splitL_piece_le 59 b q0 (by rw [hq]; simp)) hbl
      have htle := trimL_le q0
      have HU := Lib.hid (fun w' => lnCut b w' hbl)
      have HP := Lib.hid (fun w' (hE' : Env w') => lnCodes (trimL q0) w' hE' (by omega))
      have HT2 := Lib.hid (fun w' => goTrim c w' (by omega))
      have hps : (splitL 59 b).map trimL = trimL q0 :: qs.map trimL := by rw [hq]; rfl
      rw [hps] at HU
      rw [ht] at HT
      cases hsp : spanP (trimL q0) with
      | none =>
        have HQ := Lib.hid (show lineQ (k, p) = none by simp [lineQ, hcm, ht, hq, hsp])
        have hsv : spanV (trimL q0) = .tuple #[.int .i64 0, .int .i64 0, .bool false] := by simp [spanV, hsp]
        rw [hsv] at HP
        generalize trimL q0 = z0 at HU HP
        generalize qs.map trimL = zs at HU
        have Hbad := Lib.hid hbad
        have Hcm := Lib.hid hcm
        have Ht := Lib.hid ht
        have Hq := Lib.hid hq
        have Hps := Lib.hid hps
        have Hsp := Lib.hid hsp
        have Hsv := Lib.hid hsv
        have Hqle := Lib.hid hqle
        have Htle := Lib.hid htle
        clear hbad hcm ht hq hps hsp hsv hqle htle
        gi_wp2_with fail
        refine ⟨trivial, (CallsIn.inRound lp (callsIn_wide.2 HC.out)).mono ?_⟩
        rintro e w4 ⟨rfl, hb4⟩
        gi_wp2_with fail
        refine ⟨trivial, (CallsIn.inRound lp (callsIn_wide.2 (HT.out w4))).mono ?_⟩
        rintro e w5 ⟨rfl, hb5⟩
        gi_wp2_with fail
        refine ⟨trivial, (CallsIn.inRound lp (callsIn_wide.2 (HU.out w5))).mono ?_⟩
        rintro e w6 ⟨⟨A, cp, rfl, hO⟩, hb6⟩
        obtain ⟨g, off, rfl, hg, hcs⟩ := hO.strs (by simp)
        have hc0 : w6.cell? ⟨g, off, none⟩ = some (.string ⟨z0.toArray⟩) := hcs 0 (by simp)
        have h46 := bUp (bUp hb4 hb5) hb6
        have HW6 := Lib.hid (HW.out.keep h46)
        have HI6 := Lib.hid (HI.out.keep h46)
        have HO := Lib.hid hO
        clear hO hcs
        gi_wp2_with fail
        refine ⟨trivial, (CallsIn.inRound lp (callsIn_wide.2 (HP.out w6 HW6.out))).mono ?_⟩
        rintro e w7 ⟨rfl, hb7⟩
        have HI7 := Lib.hid (HI6.out.keep hb7)
        have a0 := HI7.out.res.cell 0
        have f0 := HI7.out.res.frozen 0
        have a1 := HI7.out.flt.cell 0
        have f1 := HI7.out.flt.frozen 0
        have a2 := HI7.out.flt.cell 1
        have f2 := HI7.out.flt.frozen 1
        gi_wp2_with fail
        obtain ⟨k1, k2, k3, k4⟩ := HI.out.fail (bUp h46 hb7) (.int .i64 k)
        exact ⟨k1.from _, rfl, pre, _, rfl, Hbad.out, HQ.out, k2, k3, k4⟩
      | some r =>
        obtain ⟨x1, y1⟩ := r
        have HQ := Lib.hid (show lineQ (k, p) = some (some ⟨k, x1, y1, qs.map trimL, trimL c⟩) by simp [lineQ, hcm, ht, hq, hsp])
        have hsv : spanV (trimL q0) = .tuple #[.int .i64 x1, .int .i64 y1, .bool true] := by simp [spanV, hsp]
        rw [hsv] at HP
        generalize trimL q0 = z0 at HU HP
        generalize qs.map trimL = zs at HU HQ
        have Hbad := Lib.hid hbad
        have Hcm := Lib.hid hcm
        have Ht := Lib.hid ht
        have Hq := Lib.hid hq
        have Hps := Lib.hid hps
        have Hsp := Lib.hid hsp
        have Hsv := Lib.hid hsv
        have Hqle := Lib.hid hqle
        have Htle := Lib.hid htle
        clear hbad hcm ht hq hps hsp hsv hqle htle
        gi_wp2_with fail
        refine ⟨trivial, (CallsIn.inRound lp (callsIn_wide.2 HC.out)).mono ?_⟩
        rintro e w4 ⟨rfl, hb4⟩
        gi_wp2_with fail
        refine ⟨trivial, (CallsIn.inRound lp (callsIn_wide.2 (HT.out w4))).mono ?_⟩
        rintro e w5 ⟨rfl, hb5⟩
        gi_wp2_with fail
        refine ⟨trivial, (CallsIn.inRound lp (callsIn_wide.2 (HU.out w5))).mono ?_⟩
        rintro e w6 ⟨⟨A, cp, rfl, hO⟩, hb6⟩
        obtain ⟨g, off, rfl, hg, hcs⟩ := hO.strs (by simp)
        have hc0 : w6.cell? ⟨g, off, none⟩ = some (.string ⟨z0.toArray⟩) := hcs 0 (by simp)
        have h46 := bUp (bUp hb4 hb5) hb6
        have HW6 := Lib.hid (HW.out.keep h46)
        have HI6 := Lib.hid (HI.out.keep h46)
        have HO := Lib.hid hO
        clear hO hcs
        gi_wp2_with fail
        refine ⟨trivial, (CallsIn.inRound lp (callsIn_wide.2 (HP.out w6 HW6.out))).mono ?_⟩
        rintro e w7 ⟨rfl, hb7⟩
        have HI7 := Lib.hid (HI6.out.keep hb7)
        obtain ⟨Bt, hrun, hft⟩ := strTail (FldAt.of_own HO.out)
        have Hft := Lib.hid (hft.keep hb7)
        have a3 : w7.cell? ⟨w.heap.size + 1 + 1, 0, none⟩ = some (.slice Av (goodL pre).length cv) := HI7.out.box.cell 0
        have f3 : w7.frozen? ⟨w.heap.size + 1 + 1, 0, none⟩ = false := HI7.out.box.frozen 0
        clear hft
        gi_wp2_with fail
        refine wpIn_region_round (by kernel_rfl) (by kernel_rfl) (by rintro ⟨a', w', h⟩; exact h) ?_
        refine wpAny_take (i := 1) (v := .int .i64 k) rfl (by kernel_rfl) (by kernel_rfl) (by kernel_rfl) (fun _ _ _ h => h) (Or.inl ⟨by rfl, fun w => by go_simp⟩) ?_
        refine wpAny_take (i := 2) (v := .int .i64 x1) rfl (by kernel_rfl) (by kernel_rfl) (by kernel_rfl) (fun _ _ _ h => h) (Or.inl ⟨by rfl, fun w => by go_simp⟩) ?_
        refine wpAny_take (i := 3) (v := .int .i64 y1) rfl (by kernel_rfl) (by kernel_rfl) (by kernel_rfl) (fun _ _ _ h => h) (Or.inl ⟨by rfl, fun w => by go_simp⟩) ?_
        refine wpAny_take (i := 4) (v := .slice (some ⟨g, off, none⟩) (zs.length + 1) cp) rfl (by kernel_rfl) (by kernel_rfl) (by kernel_rfl) (fun _ _ _ h => h) (Or.inl ⟨by rfl, fun w => by go_simp⟩) ?_
        refine wpAny_take (i := 6) (v := .string ⟨c.toArray⟩) rfl (by kernel_rfl) (by kernel_rfl) (by kernel_rfl) (fun _ _ _ h => h) (Or.inl ⟨by rfl, fun w => by go_simp⟩) ?_
        refine wpAny_take (i := 5) (v := .slice Bt zs.length (cp - 1)) rfl (by kernel_rfl) (by kernel_rfl) (by kernel_rfl) (fun _ _ _ h => h) (Or.inl ⟨by rfl, fun w => by go_simp⟩) ?_
        refine wpAny_ready (rs := [0, 7]) (by kernel_rfl) (by simp) ?_
        have hd7 : Below w7.heap.size w7 w7.drew := ⟨rfl, rfl, rfl, Nat.le_refl _, fun _ _ => rfl⟩
        refine AllReady.cons rfl (fun K hK => ?_) (AllReady.cons rfl (fun K hK => ?_) AllReady.nil)
        · go_simp
          refine hK _ _ ?_
          clear hK K
          refine wpAny_ready (rs := [7]) (by kernel_rfl) (by simp) ?_
          refine AllReady.cons rfl (fun K hK => ?_) AllReady.nil
          go_simp
          refine (HT2.out _).mono ?_
          rintro e w8 ⟨rfl, hb8⟩
          refine hK _ _ ?_
          clear hK K
          have h8 : Below W.heap.size W w8 := bUp (bUp (bUp h46 hb7) hd7) hb8
          have HI8 := Lib.hid (HI.out.keep h8)
          have Hft8 := Lib.hid ((Hft.out.keep hd7).keep hb8)
          have hsz8 : w.heap.size + 4 ≤ w8.heap.size := by have := HI8.out.str.lt; omega
          refine wpAny_take (i := 8) (v := .agg #[.int .i64 k, .int .i64 x1, .int .i64 y1, .slice Bt zs.length (cp - 1), .string ⟨(trimL c).toArray⟩]) rfl (by kernel_rfl) (by kernel_rfl) (by kernel_rfl) (fun _ _ _ h => h) (Or.inl ⟨by rfl, fun w => by go_simp⟩) ?_
          refine wpAny_ready (rs := [9]) (by kernel_rfl) (by simp) ?_
          refine AllReady.cons rfl (fun K hK => ?_) AllReady.nil
          go_simp
          refine hK _ _ ?_
          clear hK K
          refine wpAny_ready (rs := [10]) (by kernel_rfl) (by simp) ?_
          refine AllReady.cons rfl (fun K hK => ?_) AllReady.nil
          refine stepL rfl (.tmp 45) (.tmp 54) rfl (w.heap.size + 4) rfl HI8.out.own ⟨k, x1, y1, zs, trimL c⟩ (.slice Bt zs.length (cp - 1)) Hft8.out rfl (by omega) hsz8 ?_
          intro v' w9 HO9 Hg9
          refine hK _ _ ?_
          clear hK K
          obtain ⟨A9, c9, rfl, _⟩ := HO9.out.form
          have Hown := Lib.hid HI8.out.own.row
          have hb9 : Blk w9 (w.heap.size + 1 + 1) #[.slice Av (goodL pre).length cv] 23 := HI8.out.box.grown Hg9.out (fun e => by have := (Hown.out _ e.symm).1; omega)
          have a9 := hb9.cell 0
          have f9 := hb9.frozen 0
          refine wpAny_ready (rs := [11]) (by kernel_rfl) (by simp) ?_
          refine AllReady.cons rfl (fun K hK => ?_) AllReady.nil
          go_simp
          refine hK _ _ ?_
          clear hK K
          refine wpAny_done (by kernel_rfl) ?_ _
          obtain ⟨k1, k2, k3⟩ := HI.out.next h8 HO9.out Hg9.out
          rw [List.length_append] at k1 k2 k3
          exact ⟨k1.from _, k2, bad_good Hbad.out HQ.out, _, by rw [good_more HQ.out]; exact k3⟩
        · go_simp
          refine (HT2.out _).mono ?_
          rintro e w8 ⟨rfl, hb8⟩
          refine hK _ _ ?_
          clear hK K
          have h8 : Below W.heap.size W w8 := bUp (bUp (bUp h46 hb7) hd7) hb8
          have HI8 := Lib.hid (HI.out.keep h8)
          have Hft8 := Lib.hid ((Hft.out.keep hd7).keep hb8)
          have hsz8 : w.heap.size + 4 ≤ w8.heap.size := by have := HI8.out.str.lt; omega
          have a8 : w8.cell? ⟨w.heap.size + 1 + 1, 0, none⟩ = some (.slice Av (goodL pre).length cv) := HI8.out.box.cell 0
          refine wpAny_take (i := 8) (v := .agg #[.int .i64 k, .int .i64 x1, .int .i64 y1, .slice Bt zs.length (cp - 1), .string ⟨(trimL c).toArray⟩]) rfl (by kernel_rfl) (by kernel_rfl) (by kernel_rfl) (fun _ _ _ h => h) (Or.inl ⟨by rfl, fun w => by go_simp⟩) ?_
          refine wpAny_ready (rs := [0, 9]) (by kernel_rfl) (by simp) ?_
          refine AllReady.cons rfl (fun K hK => ?_) (AllReady.cons rfl (fun K hK => ?_) AllReady.nil)
          · go_simp
            refine hK _ _ ?_
            clear hK K
            refine wpAny_ready (rs := [9]) (by kernel_rfl) (by simp) ?_
            refine AllReady.cons rfl (fun K hK => ?_) AllReady.nil
            go_simp
            refine hK _ _ ?_
            clear hK K
            refine wpAny_ready (rs := [10]) (by kernel_rfl) (by simp) ?_
            refine AllReady.cons rfl (fun K hK => ?_) AllReady.nil
            refine stepL rfl (.tmp 45) (.tmp 54) rfl (w.heap.size + 4) rfl HI8.out.own ⟨k, x1, y1, zs, trimL c⟩ (.slice Bt zs.length (cp - 1)) Hft8.out rfl (by omega) hsz8 ?_
            intro v' w9 HO9 Hg9
            refine hK _ _ ?_
            clear hK K
            obtain ⟨A9, c9, rfl, _⟩ := HO9.out.form
            have Hown := Lib.hid HI8.out.own.row
            have hb9 : Blk w9 (w.heap.size + 1 + 1) #[.slice Av (goodL pre).length cv] 23 := HI8.out.box.grown Hg9.out (fun e => by have := (Hown.out _ e.symm).1; omega)
            have a9 := hb9.cell 0
            have f9 := hb9.frozen 0
            refine wpAny_ready (rs := [11]) (by kernel_rfl) (by simp) ?_
            refine AllReady.cons rfl (fun K hK => ?_) AllReady.nil
            go_simp
            refine hK _ _ ?_
            clear hK K
            refine wpAny_done (by kernel_rfl) ?_ _
            obtain ⟨k1, k2, k3⟩ := HI.out.next h8 HO9.out Hg9.out
            rw [List.length_append] at k1 k2 k3
            exact ⟨k1.from _, k2, bad_good Hbad.out HQ.out, _, by rw [good_more HQ.out]; exact k3⟩
          · go_simp
            refine hK _ _ ?_
            clear hK K
            have a10 : (w8.alloc (.cells #[.int .i64 k, .int .i64 x1, .int .i64 y1, .slice Bt zs.length (cp - 1), .string ⟨(trimL c).toArray⟩] 35)).cell? ⟨w.heap.size + 1 + 1, 0, none⟩ = some (.slice Av (goodL pre).length cv) := (HI8.out.box.alloc _).cell 0
            refine wpAny_ready (rs := [0]) (by kernel_rfl) (by simp) ?_
            refine AllReady.cons rfl (fun K hK => ?_) AllReady.nil
            go_simp
            refine hK _ _ ?_
            clear hK K
            refine wpAny_ready (rs := [10]) (by kernel_rfl) (by simp) ?_
            refine AllReady.cons rfl (fun K hK => ?_) AllReady.nil
            refine stepL rfl (.tmp 45) (.tmp 54) rfl (w.heap.size + 4) rfl HI8.out.own ⟨k, x1, y1, zs, trimL c⟩ (.slice Bt zs.length (cp - 1)) Hft8.out rfl (by omega) hsz8 ?_
            intro v' w9 HO9 Hg9
            refine hK _ _ ?_
            clear hK K
            obtain ⟨A9, c9, rfl, _⟩ := HO9.out.form
            have Hown := Lib.hid HI8.out.own.row
            have hb9 : Blk w9 (w.heap.size + 1 + 1) #[.slice Av (goodL pre).length cv] 23 := HI8.out.box.grown Hg9.out (fun e => by have := (Hown.out _ e.symm).1; omega)
            have a9 := hb9.cell 0
            have f9 := hb9.frozen 0
            refine wpAny_ready (rs := [11]) (by kernel_rfl) (by simp) ?_
            refine AllReady.cons rfl (fun K hK => ?_) AllReady.nil
            go_simp
            refine hK _ _ ?_
            clear hK K
            refine wpAny_done (by kernel_rfl) ?_ _
            obtain ⟨k1, k2, k3⟩ := HI.out.next h8 HO9.out Hg9.out
            rw [List.length_append] at k1 k2 k3
            exact ⟨k1.from _, k2, bad_good Hbad.out HQ.out, _, by rw [good_more HQ.out]; exact k3⟩
  case done =>
    rintro D ys W hD rfl ⟨hbad, v, hI⟩ hK
    have HP := Lib.hid (show badL (linesOf l) = none from hbad)
    have HK := Lib.hid hK
    obtain ⟨A, c, rfl, hc⟩ := hI.own.form
    have HI := Lib.hid hI
    have a0 := hI.res.cell 0
    have f0 := hI.res.frozen 0
    have a1 := hI.flt.cell 0
    have f1 := hI.flt.frozen 0
    have a2 := hI.flt.cell 1
    have f2 := hI.flt.frozen 1
    have a3 := hI.box.cell 0
    clear hbad hK hI
    gi_wp2_with fail
    clear a0 f0 a1 f1 a2 f2 a3
    obtain ⟨k1, k2, k3, k4, k5⟩ := HI.out.fin
    have hD2 : w.heap.size + 4 ≤ D := by rw [Hsz3.out] at hD; exact hD
    have HK2 := Lib.hid (k1.same D _ HK.out rfl)
    have h3' := k2.grown (grownBy_putObj' _ D (.deferred none)) (by intro e; injection e; omega)
    have h4' := k3.grown (grownBy_putObj' _ D (.deferred none)) (by intro e; injection e; omega)
    have a0 := h3'.cell 0
    have a1 := h4'.cell 0
    have a2 := h4'.cell 1
    have k6 := k5.grown (grownBy_putObj' _ D (.deferred none)) (fun g e cur t fr hc => by
      injection e with e
      subst e
      rw [HK2.out] at hc
      cases hc)
    refine ⟨by simp, .inl ⟨_, _, rfl, run_takeDeferred HK2.out, ?_⟩⟩
    refine ⟨.tuple #[.slice A (goodL (linesOf l)).length c, .agg #[.int .i64 0, .int .i64 0]], by simp [results, Tryd.results11, go_sem, a0, a1, a2, linesOf], ?_, ?_⟩
    · unfold ParseOut
      rw [HP.out]
      exact ⟨A, c, rfl, k6⟩
    · exact k4.trans (belowK_b (w := w) (Nat.le_refl _) _ D _ _ (by omega) HK2.out rfl rfl)
  case stop =>
    rintro D c pre W hD ⟨post, hpost⟩ ⟨rfl, pre0, x, e, h1, h2, h3, h4, h5⟩ hK
    have HP := Lib.hid (show badL (linesOf l) = some x.1.1 by unfold linesOf; rw [hpost, e]; exact bad_bad h1 h2)
    have HK := Lib.hid hK
    have hD2 : w.heap.size + 4 ≤ D := by rw [Hsz3.out] at hD; exact hD
    have h3' := h3.grown (grownBy_putObj' W D (.deferred none)) (by intro e; injection e; omega)
    have h4' := h4.grown (grownBy_putObj' W D (.deferred none)) (by intro e; injection e; omega)
    have a0 := h3'.cell 0
    have a1 := h4'.cell 0
    have a2 := h4'.cell 1
    have H5 := Lib.hid h5
    clear hK h5 h3 h4 h1 h2 hpost
    gi_wp2_with fail
    refine ⟨by simp, .inl ⟨_, _, rfl, run_takeDeferred HK.out, ?_⟩⟩
    refine ⟨.tuple #[.slice none 0 0, .agg #[.int .i64 3, .int .i64 x.1.1]], by simp [results, Tryd.results11, go_sem, a0, a1, a2], ?_, ?_⟩
    · unfold ParseOut
      rw [HP.out]
    · exact H5.out.trans (belowK_b (w := w) (Nat.le_refl _) W D _ _ (by omega) HK.out rfl rfl)
end Go.Proofs.YtafmdeipcepaiaaDoor
