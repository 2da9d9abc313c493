/- sample; alive alive: the chapter's example -/
import Derived.Test.YtlmdjggpeiddoaaDoorD16
namespace Go.Proofs.YtlmdjggpeiddoaaDoor
open Go.RowKit Go.Sort

/-- what sample leaves in memory -/
theorem sample_mem (w : World) :
    (fun W : World => Below w.heap.size w W ∧ Blk W w.heap.size #[.slice (some ⟨w.heap.size + 1 + 1 + 1 + 1 + 1, 0, none⟩) 2 2, .slice (some ⟨w.heap.size + 1 + 1 + 1 + 1 + 1 + 1, 0, none⟩) 1 1] 39 ∧ Blk W (w.heap.size + 1) #[.int .i64 0] 3 ∧ Blk W (w.heap.size + 1 + 1) #[.int .i64 1] 3 ∧ Blk W (w.heap.size + 1 + 1 + 1 + 1 + 1) #[.string ⟨#[65]⟩, .string ⟨#[66]⟩] 9 ∧ Blk W (w.heap.size + 1 + 1 + 1 + 1 + 1 + 1) #[.int .i64 1, .int .i64 1, .slice (some ⟨w.heap.size + 1, 0, none⟩) 1 1, .slice none 0 0, .int .i64 1, .slice (some ⟨w.heap.size + 1 + 1, 0, none⟩) 1 1, .slice none 0 0] 58)
    (((((((w.alloc (.cells #[.slice (some ⟨w.heap.size + 1 + 1 + 1 + 1 + 1, 0, none⟩) 2 2, .slice (some ⟨w.heap.size + 1 + 1 + 1 + 1 + 1 + 1, 0, none⟩) 1 1] 39)).alloc (.cells #[.int .i64 0] 3)).alloc (.cells #[.int .i64 1] 3)).alloc (.cells #[.int .i64 1, .slice (some ⟨w.heap.size + 1, 0, none⟩) 1 1, .slice none 0 0] 56)).alloc (.cells #[.int .i64 1, .slice (some ⟨w.heap.size + 1 + 1, 0, none⟩) 1 1, .slice none 0 0] 56)).alloc (.cells #[.string ⟨#[65]⟩, .string ⟨#[66]⟩] 9)).alloc (.cells #[.int .i64 1, .int .i64 1, .slice (some ⟨w.heap.size + 1, 0, none⟩) 1 1, .slice none 0 0, .int .i64 1, .slice (some ⟨w.heap.size + 1 + 1, 0, none⟩) 1 1, .slice none 0 0] 58)) := by
  have key : ∀ (W : World) (o : Obj), (W.alloc o).heap.size = W.heap.size + 1 := fun W o => by simp
  have old : ∀ (W : World) (o : Obj) (b : Nat) (x : Obj), W.heap[b]? = some x → (W.alloc o).heap[b]? = some x := fun W o b x h => (heap_alloc_old W o (Array.getElem?_eq_some_iff.1 h).1).trans h
  have new : ∀ (W : World) (o : Obj) (b : Nat), W.heap.size = b → (W.alloc o).heap[b]? = some o := fun W o b h => by rw [← h]; exact heap_alloc_new W o
  have bel : ∀ (W : World) (o : Obj), Below w.heap.size w W → Below w.heap.size w (W.alloc o) := fun W o h => bUp h (bBox _ _)
  refine ⟨?_, ?_, ?_, ?_, ?_, ?_⟩
  · exact bel _ _ (bel _ _ (bel _ _ (bel _ _ (bel _ _ (bel _ _ (bBox _ _))))))
  · exact old _ _ _ _ (old _ _ _ _ (old _ _ _ _ (old _ _ _ _ (old _ _ _ _ (old _ _ _ _ (new _ _ _ rfl))))))
  · exact old _ _ _ _ (old _ _ _ _ (old _ _ _ _ (old _ _ _ _ (old _ _ _ _ (new _ _ _ (by simp only [key]))))))
  · exact old _ _ _ _ (old _ _ _ _ (old _ _ _ _ (old _ _ _ _ (new _ _ _ (by simp only [key])))))
  · exact old _ _ _ _ (new _ _ _ (by simp only [key]))
  · exact new _ _ _ (by simp only [key])
set_option maxHeartbeats 4000000 in
set_option maxRecDepth 100000 in
theorem sample1 (w : World) :
    Calls Tryd.prog 31 #[] w fun e w' => ∃ (A L C0 o0 c0 C1 o1 c1 ca cr : Nat), e = .returned (.agg #[.slice (some ⟨A, 0, none⟩) 2 ca, .slice (some ⟨L, 0, none⟩) 1 cr]) ∧ Hid (StrsAt w' (some ⟨A, 0, none⟩) [[65], [66]]) ∧ Hid (w'.cell? ⟨L, 0, none⟩ = some (.int .i64 1)) ∧ Hid (PatAt w' L 1 0 C0 o0 c0) ∧ Hid (PatAt w' L 4 1 C1 o1 c1) ∧ Hid (CT w' C0 o0 3 (.int .i64 0)) ∧ Hid (CT w' C1 o1 3 (.int .i64 1)) ∧ Below w.heap.size w w' := by
  go_enter Tryd.func31, Tryd.ntmps31
  go_wp2_with fail
  have hs := sample_mem w
  generalize (((((((w.alloc (.cells #[.slice (some ⟨w.heap.size + 1 + 1 + 1 + 1 + 1, 0, none⟩) 2 2, .slice (some ⟨w.heap.size + 1 + 1 + 1 + 1 + 1 + 1, 0, none⟩) 1 1] 39)).alloc (.cells #[.int .i64 0] 3)).alloc (.cells #[.int .i64 1] 3)).alloc (.cells #[.int .i64 1, .slice (some ⟨w.heap.size + 1, 0, none⟩) 1 1, .slice none 0 0] 56)).alloc (.cells #[.int .i64 1, .slice (some ⟨w.heap.size + 1 + 1, 0, none⟩) 1 1, .slice none 0 0] 56)).alloc (.cells #[.string ⟨#[65]⟩, .string ⟨#[66]⟩] 9)).alloc (.cells #[.int .i64 1, .int .i64 1, .slice (some ⟨w.heap.size + 1, 0, none⟩) 1 1, .slice none 0 0, .int .i64 1, .slice (some ⟨w.heap.size + 1 + 1, 0, none⟩) 1 1, .slice none 0 0] 58)) = W at hs ⊢
  obtain ⟨hb, hr, h0, h1, hn, hl⟩ := hs
  have r0 : W.cell? ⟨w.heap.size, 0, none⟩ = some (.slice (some ⟨w.heap.size + 1 + 1 + 1 + 1 + 1, 0, none⟩) 2 2) := hr.cell 0
  have r1 : W.cell? ⟨w.heap.size, 1, none⟩ = some (.slice (some ⟨w.heap.size + 1 + 1 + 1 + 1 + 1 + 1, 0, none⟩) 1 1) := hr.cell 1
  have HFin : Hid (Hid (StrsAt W (some ⟨w.heap.size + 1 + 1 + 1 + 1 + 1, 0, none⟩) [[65], [66]]) ∧ Hid (W.cell? ⟨w.heap.size + 1 + 1 + 1 + 1 + 1 + 1, 0, none⟩ = some (.int .i64 1)) ∧ Hid (PatAt W (w.heap.size + 1 + 1 + 1 + 1 + 1 + 1) 1 0 (w.heap.size + 1) 0 1) ∧ Hid (PatAt W (w.heap.size + 1 + 1 + 1 + 1 + 1 + 1) 4 1 (w.heap.size + 1 + 1) 0 1) ∧ Hid (CT W (w.heap.size + 1) 0 3 (.int .i64 0)) ∧ Hid (CT W (w.heap.size + 1 + 1) 0 3 (.int .i64 1)) ∧ Below w.heap.size w W) := by
    refine Lib.hid ⟨Lib.hid fun _ => ⟨_, 0, rfl, hn.lt, fun j hj => ?_⟩, Lib.hid (hl.cell 0), Lib.hid ⟨hl.cell 1, hl.cell 2, hl.cell 3, h0.cell 0⟩, Lib.hid ⟨hl.cell 4, hl.cell 5, hl.cell 6, h1.cell 0⟩, Lib.hid (h0.ct rfl), Lib.hid (h1.ct rfl), hb⟩
    have hj : j < 2 := hj
    rw [Nat.zero_add, hn.cell j]
    obtain rfl | rfl : j = 0 ∨ j = 1 := by omega
    all_goals rfl
  clear hb hr h0 h1 hn hl
  refine bodyPost_ret (v := .agg #[.slice (some ⟨w.heap.size + 1 + 1 + 1 + 1 + 1, 0, none⟩) 2 2, .slice (some ⟨w.heap.size + 1 + 1 + 1 + 1 + 1 + 1, 0, none⟩) 1 1]) (by simp [results, Tryd.results31, go_sem, r0, r1]) rfl ⟨_, _, _, _, _, _, _, _, _, _, rfl, HFin.out⟩
end Go.Proofs.YtlmdjggpeiddoaaDoor
namespace Go.Proofs.YtlmdjggpeiddoaaDoor
open Go.RowKit Go.Sort

theorem sampFew : TabFew sampT := by
  refine ⟨?_, by decide, by decide, by decide, by decide, by decide, by decide, ?_, ?_, ?_, ?_⟩
  all_goals
    intro p hp
    simp only [sampT, List.mem_cons, List.not_mem_nil, or_false] at hp
    rcases hp with rfl | rfl <;> decide
theorem sampL : leftT sampT [0, 1, 0] = [0, 1, 0, 1] := by kernel_rfl
theorem sampR : rightT sampT [0, 1, 0] = [0, 1, 0, 0] := by kernel_rfl
theorem sampA : actsT sampT [0, 1, 0] = [2, 1, 2, 2] := by kernel_rfl
theorem sampV : validB sampT = true := by kernel_rfl
/-- what Left, Right, Actions, Equal answer there -/
def Sl4 (zs : List Int) (w : World) (e : Ending) (w' : World) : Prop := ∃ A c, e = .returned (.slice A 4 c) ∧ Hid (IntsAt w' A zs) ∧ Below w.heap.size w w'
theorem sampLeft (a0 a1 a2 a3 a4 a5 : Option Addr) (k0 k1 k2 k3 k4 k5 : Nat) (A : Option Addr) (w : World) (hT : TabAt w sampT ⟨a0, a1, a2, a3, a4, a5, k0, k1, k2, k3, k4, k5⟩) (hA : IntsAt w A [0, 1, 0]) :
    Calls Tryd.prog 15 #[.agg #[.slice a0 2 k0, .slice a1 1 k1, .slice a2 2 k2, .slice a3 2 k3, .slice a4 2 k4, .slice a5 2 k5], .slice A 3 3] w (Sl4 [0, 1, 0, 1] w) := by
  have h := left sampT ⟨a0, a1, a2, a3, a4, a5, k0, k1, k2, k3, k4, k5⟩ [0, 1, 0] A 3 w hT sampFew hA (by decide)
  rw [sampL] at h
  exact h.mono fun e w' ⟨A', c, he, hI, _, hb⟩ => ⟨A', c, he, hI, hb⟩
theorem sampRight (a0 a1 a2 a3 a4 a5 : Option Addr) (k0 k1 k2 k3 k4 k5 : Nat) (A : Option Addr) (w : World) (hT : TabAt w sampT ⟨a0, a1, a2, a3, a4, a5, k0, k1, k2, k3, k4, k5⟩) (hA : IntsAt w A [0, 1, 0]) :
    Calls Tryd.prog 17 #[.agg #[.slice a0 2 k0, .slice a1 1 k1, .slice a2 2 k2, .slice a3 2 k3, .slice a4 2 k4, .slice a5 2 k5], .slice A 3 3] w (Sl4 [0, 1, 0, 0] w) := by
  have h := right sampT ⟨a0, a1, a2, a3, a4, a5, k0, k1, k2, k3, k4, k5⟩ [0, 1, 0] A 3 w hT sampFew hA (by decide)
  rw [sampR] at h
  exact h.mono fun e w' ⟨A', c, he, hI, _, hb⟩ => ⟨A', c, he, hI, hb⟩
theorem sampActs (a0 a1 a2 a3 a4 a5 : Option Addr) (k0 k1 k2 k3 k4 k5 : Nat) (A : Option Addr) (w : World) (hT : TabAt w sampT ⟨a0, a1, a2, a3, a4, a5, k0, k1, k2, k3, k4, k5⟩) (hA : IntsAt w A [0, 1, 0]) :
    Calls Tryd.prog 19 #[.agg #[.slice a0 2 k0, .slice a1 1 k1, .slice a2 2 k2, .slice a3 2 k3, .slice a4 2 k4, .slice a5 2 k5], .slice A 3 3] w (Sl4 [2, 1, 2, 2] w) := by
  have h := actions sampT ⟨a0, a1, a2, a3, a4, a5, k0, k1, k2, k3, k4, k5⟩ [0, 1, 0] A 3 w hT sampFew hA (by decide)
  rw [sampA] at h
  exact h.mono fun e w' ⟨A', c, he, hI, _, hb⟩ => ⟨A', c, he, hI, hb⟩
theorem sampValid (a0 a1 a2 a3 a4 a5 : Option Addr) (k0 k1 k2 k3 k4 k5 : Nat) (w : World) (hT : TabAt w sampT ⟨a0, a1, a2, a3, a4, a5, k0, k1, k2, k3, k4, k5⟩) :
    Calls Tryd.prog 10 #[.agg #[.slice a0 2 k0, .slice a1 1 k1, .slice a2 2 k2, .slice a3 2 k3, .slice a4 2 k4, .slice a5 2 k5]] w fun e w' => e = .returned (.bool true) ∧ Below w.heap.size w w' := by
  have h := valid sampT ⟨a0, a1, a2, a3, a4, a5, k0, k1, k2, k3, k4, k5⟩ w hT sampFew
  rw [sampV] at h
  exact h
theorem eq4 (xs : List Int) (hl : xs.length = 4) (A B : Option Addr) (c : Nat) (w : World) (hA : IntsAt w A xs) (hB : IntsAt w B xs) :
    Calls Tryd.prog 14 #[.slice A 4 c, .slice B 4 4] w fun e w' => e = .returned (.bool true) ∧ Below w.heap.size w w' := by
  have h := rfEqual xs xs A B c 4 w hA hB (by omega) (by omega)
  rw [hl, decide_eq_true rfl] at h
  exact h

set_option maxHeartbeats 16000000 in
set_option maxRecDepth 100000 in
theorem alive (w : World) (hE : EnvB w) :
    Calls Tryd.prog 12 #[] w fun e w' => e = .returned (.bool true) ∧ Below w.heap.size w w' := by
  have HSm := Lib.hid (sample1 w)
  have HE := Lib.hid hE
  clear hE
  go_enter Tryd.func12, Tryd.ntmps12
  go_wp2_with fail
  refine HSm.out.mono ?_
  rintro e w1 ⟨A, L, C0, o0, c0, C1, o1, c1, ca, cr, rfl, h1, h2, h3, h4, h5, h6, hb1⟩
  have HC := Lib.hid (compile1 (some ⟨A, 0, none⟩) ca cr L C0 o0 c0 C1 o1 c1 w1 h1.out h2.out h3.out h4.out h5.out h6.out (HE.out.keep hb1))
  clear HSm h1 h2 h3 h4 h5 h6
  have Hb1 := Lib.hid hb1
  clear hb1
  go_wp2_with fail
  refine HC.out.mono ?_
  rintro e w2 ⟨⟨a0, a1, a2, a3, a4, a5, k0, k1, k2, k3, k4, k5⟩, he, HT, hb2⟩
  have he : e = .returned (.tuple #[.agg #[.slice a0 2 k0, .slice a1 1 k1, .slice a2 2 k2, .slice a3 2 k3, .slice a4 2 k4, .slice a5 2 k5], .int .i64 0]) := he
  subst he
  clear HC
  go_upto_region 2 with fail
  have hbx := bBox w2 (.cells #[.slice a0 2 k0, .slice a1 1 k1, .slice a2 2 k2, .slice a3 2 k3, .slice a4 2 k4, .slice a5 2 k5] 28)
  have HB := Lib.hid (Blk.new w2 #[.slice a0 2 k0, .slice a1 1 k1, .slice a2 2 k2, .slice a3 2 k3, .slice a4 2 k4, .slice a5 2 k5] 28)
  have HT3 := Lib.hid (HT.out.keep hbx)
  have Hb3 := Lib.hid (bUp (bUp Hb1.out hb2) hbx)
  clear hbx HT Hb1 hb2
  generalize w2.alloc (.cells #[.slice a0 2 k0, .slice a1 1 k1, .slice a2 2 k2, .slice a3 2 k3, .slice a4 2 k4, .slice a5 2 k5] 28) = w3 at HB HT3 Hb3 ⊢
  generalize w2.heap.size = B at HB ⊢
  obtain ⟨b, off, e2, _, hc⟩ := HT3.out.ln (by decide)
  have e2 : a2 = some ⟨b, off, none⟩ := e2
  subst e2
  obtain ⟨R0, d0, hr0, hi0, _⟩ := hc 0 (by decide)
  obtain ⟨R1, d1, hr1, _⟩ := hc 1 (by decide)
  obtain ⟨rb, ro, e3, _, hq⟩ := hi0 (by decide)
  subst e3
  have hq0 : w3.cell? ⟨rb, ro, none⟩ = some (.int .i64 1) := hq 0 (by decide)
  have hr0 : w3.cell? ⟨b, off, none⟩ = some (.slice (some ⟨rb, ro, none⟩) 2 d0) := hr0
  have hr1 : w3.cell? ⟨b, off + 1, none⟩ = some (.slice R1 2 d1) := hr1
  clear hc hi0 hq
  have s0 : w3.cell? ⟨B, 0, none⟩ = some (.slice a0 2 k0) := HB.out.cell 0
  have s1 : w3.cell? ⟨B, 1, none⟩ = some (.slice a1 1 k1) := HB.out.cell 1
  have s2 : w3.cell? ⟨B, 2, none⟩ = some (.slice (some ⟨b, off, none⟩) 2 k2) := HB.out.cell 2
  have s3 : w3.cell? ⟨B, 3, none⟩ = some (.slice a3 2 k3) := HB.out.cell 3
  have s4 : w3.cell? ⟨B, 4, none⟩ = some (.slice a4 2 k4) := HB.out.cell 4
  have s5 : w3.cell? ⟨B, 5, none⟩ = some (.slice a5 2 k5) := HB.out.cell 5
  go_wp2_with fail
  clear hr0 hr1 hq0 HB
  refine (sampLeft _ _ _ _ _ _ _ _ _ _ _ _ _ _ (HT3.out.keep (bBox _ _)) (ints_new _ [0, 1, 0] _)).mono ?_
  rintro e w4 ⟨A4, c4, rfl, I4, hb4⟩
  go_wp2_with fail
  refine (eq4 [0, 1, 0, 1] rfl _ _ _ _ (I4.out.keep (bBox _ _)) (ints_new _ [0, 1, 0, 1] _)).mono ?_
  rintro e w5 ⟨rfl, hb5⟩
  have hb := bUp (bUp (bBox w3 _) hb4) (bUp (bBox w4 _) hb5)
  replace s0 := cell_keep hb s0
  replace s1 := cell_keep hb s1
  replace s2 := cell_keep hb s2
  replace s3 := cell_keep hb s3
  replace s4 := cell_keep hb s4
  replace s5 := cell_keep hb s5
  replace HT3 := Lib.hid (HT3.out.keep hb)
  replace Hb3 := Lib.hid (bUp Hb3.out hb)
  clear hb hb4 hb5 I4
  go_wp2_with fail
  refine (sampRight _ _ _ _ _ _ _ _ _ _ _ _ _ _ (HT3.out.keep (bBox _ _)) (ints_new _ [0, 1, 0] _)).mono ?_
  rintro e w6 ⟨A4, c4, rfl, I4, hb4⟩
  go_wp2_with fail
  refine (eq4 [0, 1, 0, 0] rfl _ _ _ _ (I4.out.keep (bBox _ _)) (ints_new _ [0, 1, 0, 0] _)).mono ?_
  rintro e w7 ⟨rfl, hb5⟩
  have hb := bUp (bUp (bBox w5 _) hb4) (bUp (bBox w6 _) hb5)
  replace s0 := cell_keep hb s0
  replace s1 := cell_keep hb s1
  replace s2 := cell_keep hb s2
  replace s3 := cell_keep hb s3
  replace s4 := cell_keep hb s4
  replace s5 := cell_keep hb s5
  replace HT3 := Lib.hid (HT3.out.keep hb)
  replace Hb3 := Lib.hid (bUp Hb3.out hb)
  clear hb hb4 hb5 I4
  go_wp2_with fail
  refine (sampActs _ _ _ _ _ _ _ _ _ _ _ _ _ _ (HT3.out.keep (bBox _ _)) (ints_new _ [0, 1, 0] _)).mono ?_
  rintro e w8 ⟨A4, c4, rfl, I4, hb4⟩
  go_wp2_with fail
  refine (eq4 [2, 1, 2, 2] rfl _ _ _ _ (I4.out.keep (bBox _ _)) (ints_new _ [2, 1, 2, 2] _)).mono ?_
  rintro e w9 ⟨rfl, hb5⟩
  have hb := bUp (bUp (bBox w7 _) hb4) (bUp (bBox w8 _) hb5)
  replace s0 := cell_keep hb s0
  replace s1 := cell_keep hb s1
  replace s2 := cell_keep hb s2
  replace s3 := cell_keep hb s3
  replace s4 := cell_keep hb s4
  replace s5 := cell_keep hb s5
  replace HT3 := Lib.hid (HT3.out.keep hb)
  replace Hb3 := Lib.hid (bUp Hb3.out hb)
  clear hb hb4 hb5 I4
  go_wp2_with fail
  refine (sampValid _ _ _ _ _ _ _ _ _ _ _ _ _ HT3.out).mono ?_
  rintro e wz ⟨rfl, hbz⟩
  go_wp2_with fail
  go_ret
  exact ⟨rfl, bUp Hb3.out hbz⟩
end Go.Proofs.YtlmdjggpeiddoaaDoor
