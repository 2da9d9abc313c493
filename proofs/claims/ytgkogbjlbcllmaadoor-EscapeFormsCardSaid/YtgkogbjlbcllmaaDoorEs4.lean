/- escape.Text -/
import Derived.Test.YtgkogbjlbcllmaaDoorEs3
namespace Go.Proofs.YtgkogbjlbcllmaaDoor
open Go.RowKit Go.Shelf Go.Sort
attribute [local go_sem] Oper.semAt_some

theorem esPieces (A : Option Addr) (n cap : Nat) (w : World) :
    Calls Tryd.prog 24 #[.slice A n cap] w fun e w' => e = .returned (.func (.func 39) #[] #[.pointer (some ⟨w.heap.size, 0, none⟩)]) ∧ w.alloc (.cells #[.slice A n cap] 22) = w' := by
  go_enter Tryd.func24, Tryd.ntmps24
  go_wp2
  go_ret
  exact ⟨rfl, rfl⟩

def catP (pre : List Pc) : List UInt8 := 34 :: pre.flatMap fun p => p.1
theorem catP_snoc (pre : List Pc) (p : Pc) : catP (pre ++ [p]) = catP pre ++ p.1 := by simp [catP]
theorem catP_le : ∀ pre : List Pc, (catP pre).length ≤ 10 * pre.length + 1
  | [] => by simp [catP]
  | p :: r => by
    have h1 := catP_le r
    have h2 := p.2
    simp only [catP, List.flatMap_cons, List.length_cons, List.length_append] at h1 ⊢
    omega
theorem catP_all (t : List Int) : catP (t.map pcOf) ++ [34] = textE t := by
  have : (t.map pcOf).flatMap (fun p => p.1) = t.flatMap pieceL := by
    induction t with
    | nil => rfl
    | cons c r ih => rw [List.map_cons, List.flatMap_cons, List.flatMap_cons, ih]; rfl
  simp [catP, textE, this]

set_option maxHeartbeats 4000000 in
set_option maxRecDepth 100000 in
theorem esTextYes (zs : List Int) (A : Option Addr) (cap : Nat) (w : World) (hA : IntsAt w A zs) (hwf : WfInts zs) (hl : zs.length ≤ 1000000) (hD : Dig w) (hv : allValid zs = true) :
    Calls Tryd.prog 13 #[.slice A zs.length cap] w fun e w' => e = .returned (strErr (textE zs) 0) ∧ Below w.heap.size w w' := by
  have HV := Lib.hid (esValid zs A cap w hA hl)
  have HA := Lib.hid hA
  have Hwf := Lib.hid hwf
  have HD := Lib.hid hD
  have Hv := Lib.hid hv
  clear hA hwf hD hv
  refine (callsIn_wide (n := 5)).1 ?_
  refine callsIn_of_wp_marks Tryd.func13 rfl trivial ?_ rfl
  simp only [Tryd.ntmps13, List.size_toArray, List.length_cons, List.length_nil, Nat.reduceAdd, Nat.reduceSub, Array.replicate_succ, Array.replicate_zero, List.push_toArray, List.append_toArray, List.nil_append, List.cons_append]
  gi_wp2_with fail
  refine ⟨trivial, (callsIn_wide.2 HV.out).mono ?_⟩
  rintro e w1 ⟨rfl, rfl⟩
  rw [Hv.out]
  have hB0 := Bld.fresh 43 [] w
  have HB0 := Lib.hid hB0
  clear hB0
  gi_wp2_with fail
  refine ⟨trivial, (callsIn_wide.2 (writeByteF bldTy0 HB0.out 34 (by simp))).mono ?_⟩
  rintro e w2 ⟨rfl, hB2, hb2, hf2⟩
  have hw2 : Below w.heap.size w w2 := ((Below.refl _ w).alloc (Nat.le_refl _) _).trans hb2
  have HB2 := Lib.hid hB2
  clear hB2
  gi_wp2_with fail
  refine ⟨trivial, (callsIn_wide.2 (esPieces A zs.length cap w2)).mono ?_⟩
  rintro e w3 ⟨rfl, rfl⟩
  have hsz2 : w.heap.size < w2.heap.size := HB2.out.lt
  have hbox := Blk.new w2 #[.slice A zs.length cap] 22
  have hw3 : Below w.heap.size w (w2.alloc (.cells #[.slice A zs.length cap] 22)) := hw2.alloc hw2.size _
  have HB3 := Lib.hid (HB2.out.keep (bBox w2 (.cells #[.slice A zs.length cap] 22)))
  have Hbox := Lib.hid hbox
  have hsz3 : (w2.alloc (.cells #[.slice A zs.length cap] 22)).heap.size = w2.heap.size + 1 := by simp
  have Hsz3 := Lib.hid hsz3
  clear hbox hsz3
  gi_wp2_with fail
  refine wpIn_rangeFunc_ownG rfl (by omega) (gf := 39) (lb := #[.pointer (some ⟨w2.heap.size, 0, none⟩)]) rfl trivial (enters_of Tryd.func39 (by kernel_rfl) rfl)
    (pieces1 4 (by omega) w2.heap.size A cap zs w _ Hbox.out HA.out Hwf.out HD.out hw3 hl) KpB.trans (fun W l o o' hl h _ _ => KpB.put (s := w2.heap.size + 1) (by omega) (by omega) W l o o' (by rw [Hsz3.out] at hl; exact hl) h) (Below.refl _ _) (fun _ => rfl)
    (fun pre W => Bld 43 [] w.heap.size (catP pre) W ∧ (Blk W w2.heap.size #[.slice A zs.length cap] 22 ∧ Below w.heap.size w W))
    (fun _ _ _ => False)
    (OwnFrom.and (bld_own _ _ _ _ catP) (OwnFrom.and (blk_own _ _ _ _) (ownFrom_below (Nat.le_refl _) (by rw [Hsz3.out]; omega))))
    (fun _ _ _ _ _ hs _ _ => hs)
    ⟨HB3.out, Hbox.out, hw3⟩
    (fun x => { tmps := #[.slice A zs.length cap, undef, .string ⟨#[]⟩, .int .i64 0, .pointer (some ⟨w.heap.size, 0, none⟩), .string ⟨x.1.toArray⟩, .slice A zs.length cap, .bool true, .bool false, .nilIface, .slice A zs.length cap,
          .func (.func 39) #[] #[.pointer (some ⟨w2.heap.size, 0, none⟩)], .string ⟨x.1.toArray⟩, undef, undef, undef, undef], defers := [] }) ?assign ?body ?done ?stop
  case assign =>
    intro l x W K hK
    gi_wp2
    exact hK
  case body =>
    rintro l pre x W ⟨hB, hblk, hbel⟩ hlen
    have hle := catP_le pre
    have hx := x.2
    have HB := Lib.hid hB
    have Hblk := Lib.hid hblk
    clear hB hblk
    gi_wp2_with fail
    refine ⟨trivial, (CallsIn.inRound l (callsIn_wide.2 (writeStringF bldTy0 HB.out x.1 (by omega) (by omega)))).mono ?_⟩
    rintro e w4 ⟨rfl, hB4, hb4, hf4⟩
    have HB4 := Lib.hid hB4
    have Hf4 := Lib.hid hf4
    clear hB4 hf4
    gi_wp2_with fail
    have hblk4 := Hf4.out.keepBlk Hblk.out (by decide) (by omega)
    exact ⟨(FrB.others HB.out Hf4.out hb4.size).from _, ⟨hb4, hblk4.trans Hblk.out.symm⟩, by rw [catP_snoc]; exact HB4.out, hblk4, hbel.trans hb4⟩
  case done =>
    rintro D ys W hD rfl ⟨hB, hblk, hbel⟩ hK
    have hle := catP_le (zs.map pcOf)
    rw [List.length_map] at hle
    have HB := Lib.hid hB
    have HK := Lib.hid hK
    clear hB hK hblk
    gi_wp2_with fail
    refine ⟨trivial, (callsIn_wide.2 (writeByteF bldTy0 HB.out 34 (by omega))).mono ?_⟩
    rintro e w4 ⟨rfl, hB4, hb4, hf4⟩
    rw [catP_all] at hB4
    have HB4 := Lib.hid hB4
    have HK4 := Lib.hid ((FrB.others HB.out hf4 hb4.size).same D _ HK.out rfl)
    clear hB4 hf4
    gi_wp2_with fail
    refine ⟨trivial, (callsIn_wide.2 (bldStringF HB4.out)).mono ?_⟩
    rintro e w5 ⟨rfl, hb5, hf5⟩
    have HK5 := Lib.hid ((FrB.others HB4.out hf5 hb5.size).same D _ HK4.out rfl)
    clear hf5
    gi_wp2_with fail
    refine ⟨by simp, .inl ⟨_, _, rfl, run_takeDeferred HK5.out, ?_⟩⟩
    rw [Hsz3.out] at hD
    exact ⟨_, results_tmp2 rfl _ _ _, rfl, ((hbel.trans hb4).trans hb5).trans (belowK_b (w := w) (Nat.le_refl _) w5 D _ _ (by omega) HK5.out rfl rfl)⟩
  case stop =>
    rintro D c pre W _ _ h _
    exact h.elim

set_option maxHeartbeats 1000000 in
set_option maxRecDepth 100000 in
theorem esTextNo (zs : List Int) (A : Option Addr) (cap : Nat) (w : World) (hA : IntsAt w A zs) (hl : zs.length ≤ 1000000) (hv : allValid zs = false) :
    Calls Tryd.prog 13 #[.slice A zs.length cap] w fun e w' => e = .returned (strErr [] 1) ∧ Below w.heap.size w w' := by
  have HV := Lib.hid (esValid zs A cap w hA hl)
  have HA := Lib.hid hA
  have Hv := Lib.hid hv
  clear hA hv
  go_enter Tryd.func13, Tryd.ntmps13
  go_wp2_with fail
  refine HV.out.mono ?_
  rintro e w1 ⟨rfl, rfl⟩
  rw [Hv.out]
  go_wp2_with fail
  go_ret2
  exact ⟨rfl, Below.refl _ _⟩

theorem esText (zs : List Int) (A : Option Addr) (cap : Nat) (w : World) (hA : IntsAt w A zs) (hwf : WfInts zs) (hl : zs.length ≤ 1000000) (hD : Dig w) :
    Calls Tryd.prog 13 #[.slice A zs.length cap] w fun e w' => e = .returned (textEV zs) ∧ Below w.heap.size w w' := by
  unfold textEV
  cases hv : allValid zs
  · exact esTextNo zs A cap w hA hl hv
  · exact esTextYes zs A cap w hA hwf hl hD hv
end Go.Proofs.YtgkogbjlbcllmaaDoor
