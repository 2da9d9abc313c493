/- machine.add: from its start to the first number (written by wip/genBm12.py) -/
import Derived.Test.YtlmdjggpeiddoaaDoorD10
import Derived.Deep.RegionHeld
import Derived.Deep.DeepCutAuto
namespace Go.Proofs.YtlmdjggpeiddoaaDoor
open Go.RowKit Go.Sort

def MachOut (M : Nat) (e : Int) (bk : Bool) (k : Int) (w : World) (x : Ending) (w' : World) : Prop :=
  ∃ (R : Nat) (nv hv rv : Value), x = .returned (.tuple #[]) ∧ Hid (Blk w' M #[.int .i64 2, .int .i64 e, .bool bk, nv, hv, rv] 67) ∧ Hid (OwnR R w' w.heap.size nv (machRun k 3).2) ∧ Hid (OwnBl w' w.heap.size hv ((machRun k 3).1.map fun s => decide (stepF k s e = [0]))) ∧ Hid (IsI R w' rv [0]) ∧ Hid (KeptM w.heap.size M w w')
/-- what machine.add keeps between its statements -/
def MS (B R : Nat) (w0 : World) (a : AddA) (ss nx : List (List Int)) (nv rv : Value) (w : World) : Prop :=
  ∃ f sv hv, AddSt B R w a ss.length f ss (ss.map (hitF a)) nx sv hv nv rv ∧ KeyOk f ss ∧ KeptM B a.M w0 w ∧ R < w.heap.size
theorem MS.keep {B R : Nat} {w0 : World} {a : AddA} {ss nx : List (List Int)} {nv rv : Value} {w w' : World} (h : MS B R w0 a ss nx nv rv w) (hb : Below w.heap.size w w') : MS B R w0 a ss nx nv rv w' := by
  obtain ⟨f, sv, hv, h1, h2, h3, h4⟩ := h
  exact ⟨f, sv, hv, h1.keep hb, h2, h3.below hb, Nat.lt_of_lt_of_le h4 hb.size⟩
theorem MS.p {B R : Nat} {w0 : World} {a : AddA} {ss nx : List (List Int)} {nv rv : Value} {w : World} (h : MS B R w0 a ss nx nv rv w) : w.cell? ⟨a.bP, 0, none⟩ = some (.pointer (some ⟨a.M, 0, none⟩)) := by
  obtain ⟨f, sv, hv, h1, _⟩ := h
  exact h1.mvar.cell 0
theorem MS.m {B R : Nat} {w0 : World} {a : AddA} {ss nx : List (List Int)} {nv rv : Value} {w : World} (h : MS B R w0 a ss nx nv rv w) : w.cell? ⟨a.M, 0, none⟩ = some (.int .i64 a.n) ∧ w.cell? ⟨a.M, 3, none⟩ = some nv ∧ w.cell? ⟨a.M, 5, none⟩ = some rv ∧ (∀ i, w.frozen? ⟨a.M, i, none⟩ = false) ∧ B ≤ w.heap.size := by
  obtain ⟨f, sv, hv, h1, _, h3, _⟩ := h
  exact ⟨h1.mach.cell 0, h1.mach.cell 3, h1.mach.cell 5, fun i => h1.mach.frozen i, h3.le⟩
theorem MS.lR {B R : Nat} {w0 : World} {a : AddA} {ss nx : List (List Int)} {nv rv : Value} {w : World} (h : MS B R w0 a ss nx nv rv w) : R < w.heap.size := by
  obtain ⟨_, _, _, _, _, _, h⟩ := h
  exact h
theorem MS.net {B R : Nat} {w0 : World} {a : AddA} {ss nx : List (List Int)} {nv rv : Value} {w : World} (h : MS B R w0 a ss nx nv rv w) : NetC w a.N a.k a.net := by
  obtain ⟨f, sv, hv, h1, _⟩ := h
  exact h1.net.net
theorem MS.env {B R : Nat} {w0 : World} {a : AddA} {ss nx : List (List Int)} {nv rv : Value} {w : World} (h : MS B R w0 a ss nx nv rv w) (hE : EnvB w0) (h1 : 0 < B) (h2 : 0 ≠ a.M) : EnvB w := by
  obtain ⟨f, sv, hv, _, _, h3, _⟩ := h
  exact hE.at_ (h3.block _ h1 h2)
def NumMS (a : AddA) (B R : Nat) (w0 : World) (ss nx : List (List Int)) (nv rv : Value) (s : List Int) (w : World) (e : Ending) (w' : World) : Prop :=
  e = .returned (.int .i64 (idxL ss s)) ∧ Hid (MS B R w0 a (numL ss s) nx nv rv w') ∧ Hid (∀ b cs, Blk w b cs 3 → Blk w' b cs 3) ∧ Hid (∀ v zs, IsI R w v zs → IsI R w' v zs)
theorem MS.num {B R : Nat} {w0 : World} {a : AddA} {ss nx : List (List Int)} {nv rv : Value} {w : World} (h : MS B R w0 a ss nx nv rv w) (hE : EnvB w0) (hg1 : 0 < B) (hg2 : 0 ≠ a.M) {s : List Int} {v : Value} (h3 : Three s) (hvs : IsI R w v s) (hss : ss.length ≤ 1000) :
    Calls Tryd.prog 56 #[v, .pointer (some ⟨a.bN, 0, none⟩), .pointer (some ⟨a.bB, 0, none⟩), .pointer (some ⟨a.bS, 0, none⟩), .pointer (some ⟨a.bP, 0, none⟩), .pointer (some ⟨a.N, 0, none⟩)] w (NumMS a B R w0 ss nx nv rv s w) := by
  have hE' := h.env hE hg1 hg2
  obtain ⟨f, sv, hv, h1, h2, h4, hR⟩ := h
  refine (num1 a B R f ss nx sv hv nv rv s v w h1 h2 h3 hvs hE' hR h4.le hss).mono ?_
  rintro e w' ⟨f', sv', hv', he, k1, k2, k3, k4, k5⟩
  exact ⟨he, Lib.hid ⟨f', sv', hv', k1.out, k2.out, k3.out w0 h4, Nat.lt_of_lt_of_le hR (k3.out w (KeptM.refl h4.le)).size⟩, k4, k5⟩
theorem MS.rooted {B R : Nat} {w0 : World} {a : AddA} {ss nx : List (List Int)} {nv rv : Value} {w : World} (h : MS B R w0 a ss nx nv rv w) (rv' : Value) : MS B R w0 a ss nx nv rv' (w.setCell ⟨a.M, 5, none⟩ rv') := by
  obtain ⟨f, sv, hv, h1, h2, h3, h4⟩ := h
  exact ⟨f, sv, hv, h1.rooted rv', h2, h3.set _ _ (.inr rfl), by simpa using h4⟩
theorem MS.away {B R : Nat} {w0 : World} {a : AddA} {ss nx : List (List Int)} {nv rv : Value} {w : World} (h : MS B R w0 a ss nx nv rv w) : Away w (some a.M) 3 := by
  obtain ⟨f, sv, hv, h1, h2, h3, _⟩ := h
  exact Away.of_cells h1.mach (by decide)
theorem MS.sets {B R : Nat} {w0 : World} {a : AddA} {ss nx : List (List Int)} {nv rv : Value} {w : World} (h : MS B R w0 a ss nx nv rv w) : ∃ As cs, w.cell? ⟨a.bS, 0, none⟩ = some (.slice As ss.length cs) ∧ ∀ k, k < ss.length → ∃ b v, As = some ⟨b, 0, none⟩ ∧ b < w.heap.size ∧ w.cell? ⟨b, k, none⟩ = some v ∧ IsI R w v (rowAt ss k) := by
  obtain ⟨f, sv, hv, h1, _⟩ := h
  obtain ⟨A, c, rfl, _, _⟩ := h1.srow.form
  exact ⟨A, c, h1.sets.cell 0, fun k hk => h1.srow.at_ hk⟩
theorem MS.next {B R : Nat} {w0 : World} {a : AddA} {ss nx : List (List Int)} {nv rv : Value} {w : World} (h : MS B R w0 a ss nx nv rv w) : ∃ An cn, nv = .slice An nx.length cn := by
  obtain ⟨f, sv, hv, h1, _⟩ := h
  obtain ⟨A, c, rfl, _, _⟩ := h1.nrow.form
  exact ⟨A, c, rfl⟩
theorem MS.lt {B R : Nat} {w0 : World} {a : AddA} {ss nx : List (List Int)} {nv rv : Value} {w : World} (h : MS B R w0 a ss nx nv rv w) : a.bP < w.heap.size ∧ a.M < w.heap.size ∧ a.bS < w.heap.size := by
  obtain ⟨f, sv, hv, h1, _⟩ := h
  exact ⟨h1.mvar.lt, h1.mach.lt, h1.sets.lt⟩
theorem MS.newRow {B R : Nat} {w0 : World} {a : AddA} {ss nx : List (List Int)} {nv rv : Value} {w : World} (h : MS B R w0 a ss nx nv rv w) (x : Obj) : MS B w.heap.size w0 a ss nx nv rv (w.alloc x) := by
  obtain ⟨f, sv, hv, h1, h2, h3, h4⟩ := h
  have hb := bBox w x
  exact ⟨f, sv, hv, (h1.other (Nat.le_refl _)).keep hb, h2, h3.below hb, by simp⟩
theorem MS.rowed {B R : Nat} {w0 : World} {a : AddA} {ss nx : List (List Int)} {nv rv : Value} {w : World} (h : MS B R w0 a ss nx nv rv w) {zs : List Int} (hr : Arr w R zs) (hB : B ≤ R) (i : Nat) (u : Value) : MS B R w0 a ss nx nv rv (w.setCell ⟨R, i, none⟩ u) := by
  obtain ⟨f, sv, hv, h1, h2, h3, h4⟩ := h
  exact ⟨f, sv, hv, h1.rowed hr i u, h2, h3.set _ _ (.inl hB), by simpa using h4⟩
theorem MS.nexted {B R : Nat} {w0 : World} {a : AddA} {ss nx nx' : List (List Int)} {nv nv' rv : Value} {w w' : World} {s : Value} (h : MS B R w0 a ss nx nv rv w) (hg : (w.alloc (.cells #[s] 23)).grownBy w' nv.ownBlock) (ho : OwnR w.heap.size w' B nv' nx') (hloc : nv'.ownBlock = nv.ownBlock ∨ ∃ g, nv'.ownBlock = some g ∧ (w.alloc (.cells #[s] 23)).heap.size ≤ g) : MS B w.heap.size w0 a ss nx' nv' rv (w'.setCell ⟨a.M, 3, none⟩ nv') := by
  obtain ⟨f, sv, hv, h1, h2, h3, h4⟩ := h
  have hb := bBox w (.cells #[s] 23)
  have h5 := (h1.other (Nat.le_refl _)).keep hb
  refine ⟨f, sv, hv, h5.nexted hg ho hloc, h2, ((h3.below hb).grown hg (fun g e => .inl (h5.nrow.typed g e).1)).set _ _ (.inr rfl), ?_⟩
  have := hg.size
  simp at this ⊢
  omega
theorem MS.nrow {B R : Nat} {w0 : World} {a : AddA} {ss nx : List (List Int)} {nv rv : Value} {w : World} (h : MS B R w0 a ss nx nv rv w) : OwnR w.heap.size w B nv nx ∧ (∀ g, nv.ownBlock = some g → B ≤ g ∧ ∃ cs, w.heap[g]? = some (.cells cs 23 (0, 0))) ∧ nx.length = nx.length ∧ B ≤ w.heap.size := by
  obtain ⟨f, sv, hv, h1, h2, h3, h4⟩ := h
  exact ⟨h1.nrow.other (Nat.le_refl _), fun g e => h1.nrow.typed g e, rfl, h3.le⟩
theorem MS.grown {B R : Nat} {w0 : World} {a : AddA} {ss nx : List (List Int)} {nv rv : Value} {w w' : World} {s : Value} (h : MS B R w0 a ss nx nv rv w) (hg : (w.alloc (.cells #[s] 23)).grownBy w' nv.ownBlock) : w'.cell? ⟨a.bP, 0, none⟩ = some (.pointer (some ⟨a.M, 0, none⟩)) ∧ w'.cell? ⟨a.M, 3, none⟩ = some nv ∧ w'.frozen? ⟨a.M, 3, none⟩ = false ∧ ∀ R' v zs u, IsI R' w v zs → IsI R' (w'.setCell ⟨a.M, 3, none⟩ u) v zs := by
  obtain ⟨f, sv, hv, h1, _⟩ := h
  have h2 := h1.keep (bBox w (.cells #[s] 23))
  have hr : ∀ g, nv.ownBlock = some g → ∃ cs, (w.alloc (.cells #[s] 23)).heap[g]? = some (.cells cs 23 (0, 0)) := fun g e => (h2.nrow.typed g e).2
  have hM := h2.mach.away hg (Away.of_row hr (by decide))
  refine ⟨(h2.mvar.away hg (Away.of_row hr (by decide))).cell 0, hM.cell 3, hM.frozen 3, fun R' v zs u hI => ?_⟩
  exact ((hI.keep (bBox w _)).away hg (.inr (Away.of_row hr (by decide)))).away (grown_set w' ⟨a.M, 3, none⟩ u) (.inr (Away.of_cells hM (t := 3) (by decide)))
theorem Arr.isI {w : World} {g : Nat} {zs : List Int} (h : Arr w g zs) {R : Nat} (hR : g ≠ R) : IsI R w (.slice (some ⟨g, 0, none⟩) zs.length zs.length) zs :=
  ⟨_, _, rfl, fun _ => ⟨g, 0, _, _, rfl, hR, h, fun j hj => by simp [intVals, nth, hj]⟩, Nat.le_refl _, fun e => by cases e⟩
theorem mach_rows (k : Int) (m : Nat) : (machRun k m).2.length = m := by
  induction m with
  | zero => rfl
  | succ m ih => simp [machRun, ih]
theorem row_mem {ss : List (List Int)} {m : Nat} (h : m < ss.length) : rowAt ss m ∈ ss := by
  unfold rowAt
  rw [List.getD_eq_getElem?_getD, List.getElem?_eq_getElem h]
  exact List.getElem_mem h
theorem row_set {l : List Int} {c : Nat} (hl : l.length = c) (hc : c < 2) (x : Int) : (l ++ List.replicate (2 - c) 0).set c x = (l ++ [x]) ++ List.replicate (2 - (c + 1)) 0 := by
  obtain ⟨n, hn⟩ : ∃ n, 2 - c = n + 1 := ⟨1 - c, by omega⟩
  rw [hn, show 2 - (c + 1) = n by omega, List.set_append_right _ _ (by omega), hl, Nat.sub_self, List.replicate_succ]
  simp
/-- append(v, s), as a step inside a region that draws its order -/
theorem stepR {ops : Array Oper} {o : Oper} {a : Act} {K : Act → World → Prop} {Q : Exit → Act → World → Prop} {E : Prop} {R : Nat} {W : World} (hgd : o.guard = none) (s x : Operand) (ho : o.op = .call { callee := .builtin .append, args := #[s, x], argTypes := #[24, 24] })
    {base : Nat} {v : Value} {rs : List (List Int)} (hs : a.eval s = v) (h : OwnR R W base v rs) {sv : Value} {r : List Int} (hsr : IsI R W sv r) (hone : sv.oneCell' = true) (hx : a.eval x = .slice (some ⟨W.heap.size, 0, none⟩) 1 1) (hl : rs.length + 1 ≤ 1000000) (hb : base ≤ W.heap.size)
    (hK : ∀ v' w', Hid (OwnR R w' base v' (rs ++ [r])) → Hid ((W.alloc (.cells #[sv] 23)).grownBy w' v.ownBlock) → Hid (v'.ownBlock = v.ownBlock ∨ ∃ g, v'.ownBlock = some g ∧ (W.alloc (.cells #[sv] 23)).heap.size ≤ g) → K (a.put o.dst v') w') : if Region.wanted o (yielded ops a.tmps) = true then Oper.wp Tryd.prog o a (W.alloc (.cells #[sv] 23)) K Q else E := by
  rw [if_pos (by simp [Region.wanted, hgd])]
  obtain ⟨v', w', hr, h2, h3, h4⟩ := appendR o.type h hsr hone hl hb
  unfold Oper.wp execOp
  simp only [ho, resolve, invoke, builtin, Sem.run_bind, Sem.run_pure, Result.andThen_ok, List.map_toArray, List.map_cons, List.map_nil, hs, hx, hr]
  exact hK v' w' (Lib.hid h2) (Lib.hid h3) (Lib.hid h4)

set_option maxHeartbeats 64000000 in
set_option maxRecDepth 100000 in
theorem machAdd (M : Nat) (e : Int) (bk : Bool) (k : Int) (C oc cc : Nat) (w : World) (hM : Blk w M #[.int .i64 2, .int .i64 e, .bool bk, .slice none 0 0, .slice none 0 0, .slice none 0 0] 67)
    (hk : k = 0 ∨ k = 1) (hC : CT w C oc 3 (.int .i64 k)) (hE : EnvB w) (hMg : 0 ≠ M) :
    Calls Tryd.prog 42 #[.pointer (some ⟨M, 0, none⟩), .agg #[.int .i64 1, .slice (some ⟨C, oc, none⟩) 1 cc, .slice none 0 0]] w (MachOut M e bk k w) := by
  have hmm := @run_makeMap Tryd.prog
  have hmf : ∀ (fn : Fn) (first cap : Array Value) (w : World), (Instr.makeFunc fn first cap).run Tryd.prog w = .ok (.func fn first cap) w := fun _ _ _ _ => rfl
  have m2 : w.cell? ⟨M, 2, none⟩ = some (.bool bk) := hM.cell 2
  have m3 : w.cell? ⟨M, 3, none⟩ = some (.slice none 0 0) := hM.cell 3
  have hl := hM.lt
  have hl1 : M < w.heap.size + 1 := by omega
  have hl2 : M < w.heap.size + 1 + 1 := by omega
  have hl3 : M < w.heap.size + 1 + 1 + 1 := by omega
  have hl4 : M < w.heap.size + 1 + 1 + 1 + 1 := by omega
  have hgB := hE.lt
  have hCl : C < w.heap.size := by obtain ⟨cs, fr, hc, _⟩ := hC; exact (Array.getElem?_eq_some_iff.1 hc).1
  go_enter Tryd.func42, Tryd.ntmps42
  go_wp2_with fail
  have HF := add_start w M C oc cc bk
  dsimp only at HF
  generalize ((((((((w.alloc (.cells #[.pointer (some ⟨M, 0, none⟩)] 91)).alloc (.cells #[.int .i64 1, .slice (some ⟨C, oc, none⟩) 1 cc, .slice none 0 0] 56)).alloc (.cells #[.slice none 0 0, .slice none 0 0] 93)).alloc (.cells #[.slice (some ⟨w.heap.size + 1 + 1, 0, none⟩) 1 1, .bool bk] 96)).alloc (.cells #[.int .i64 0] 3)).alloc (.map #[] 0)).alloc (.cells #[.map (some (w.heap.size + 1 + 1 + 1 + 1 + 1))] 97)).alloc (.cells #[.slice none 0 0] 24)) = w8 at HF ⊢
  obtain ⟨f0, f1, f2, f3, f4, f5, f6, f7, f8⟩ := HF
  have HM8 := Lib.hid (hM.keep f1)
  have HC8 := Lib.hid (show CT w8 C oc 3 (.int .i64 k) from by obtain ⟨cs, fr, hc, hv⟩ := hC; exact ⟨cs, fr, (f1.block C hCl).trans hc, hv⟩)
  have HA := Lib.hid (addNet w.heap.size M ((w.heap.size + 1 + 1 + 1)) bk (.slice (some ⟨(w.heap.size + 1 + 1), 0, none⟩) 1 1) [.slice none 0 0, .slice none 0 0] 1 (some ⟨C, oc, none⟩) none 1 cc 0 0 0 w8 f4 (nodes_start f3 (by omega)) (by omega) f1.size (by omega))
  have hKM8 : KeptM w.heap.size M w w8 := (KeptM.refl (Nat.le_refl _)).below f1
  have HKM8 := Lib.hid hKM8
  have F2 := Lib.hid f2
  have F5 := Lib.hid f5
  have F6 := Lib.hid f6
  have F7 := Lib.hid f7
  have F8 := Lib.hid f8
  have hs8 : w.heap.size + 8 ≤ w8.heap.size := by omega
  have hE8 := Lib.hid hE
  clear f0 f1 f2 f3 f4 f5 f6 f7 f8 m2 m3 hl1 hl2 hl3 hl4 hM hC hE hKM8
  refine HA.out.mono ?_
  rintro e9 w9 ⟨T, v', rfl, g1, g2, g3, g4, g5, g6, g7⟩
  obtain ⟨nb, hnet⟩ := net_made (R := (w.heap.size + 1 + 1 + 1 + 1 + 1)) g1 g2 (g5.ct HC8.out (by decide) (by decide)) g3 (by omega) (by omega)
  generalize ha : (⟨(w.heap.size + 1 + 1 + 1 + 1 + 1 + 1), (w.heap.size + 1 + 1 + 1 + 1 + 1), (w.heap.size + 1 + 1 + 1 + 1), (w.heap.size + 1 + 1 + 1 + 1 + 1 + 1 + 1), w.heap.size, M, (w.heap.size + 1 + 1 + 1), 2, e, bk, k, nb⟩ : AddA) = a
  have q1 : a.bN = (w.heap.size + 1 + 1 + 1 + 1 + 1 + 1) := by rw [← ha]
  have q2 : a.bM = (w.heap.size + 1 + 1 + 1 + 1 + 1) := by rw [← ha]
  have q3 : a.bB = (w.heap.size + 1 + 1 + 1 + 1) := by rw [← ha]
  have q4 : a.bS = (w.heap.size + 1 + 1 + 1 + 1 + 1 + 1 + 1) := by rw [← ha]
  have q5 : a.bP = w.heap.size := by rw [← ha]
  have q6 : a.M = M := by rw [← ha]
  have q7 : a.N = (w.heap.size + 1 + 1 + 1) := by rw [← ha]
  have q8 : a.n = 2 := by rw [← ha]
  have q9 : a.k = k := by rw [← ha]
  have q10 : a.e = e := by rw [← ha]
  have q11 : a.bk = bk := by rw [← ha]
  have hRlt0 : (w.heap.size + 1 + 1 + 1 + 1 + 1) < w9.heap.size := by omega
  have hSt : MS w.heap.size (w.heap.size + 1 + 1 + 1 + 1 + 1) w a [] [] (.slice none 0 0) (.slice none 0 0) w9 := by
    refine ⟨fun _ => none, .slice none 0 0, .slice none 0 0, ?_, fun s _ => rfl, by rw [q6]; exact g7 w HKM8.out, hRlt0⟩
    have hmap : w9.heap[(w.heap.size + 1 + 1 + 1 + 1 + 1)]? = some (.map #[] 0) := g5 _ _ F6.out (fun _ _ h => by cases h) (fun _ _ h => by cases h)
    refine ⟨by rw [q1, q2]; exact g5.blk F7.out (by decide) (by decide), by rw [q3]; exact g5.blk F5.out (by decide) (by decide), by rw [q4]; exact g5.blk F8.out (by decide) (by decide), by rw [q5, q6]; exact g5.blk F2.out (by decide) (by decide), ?_, ?_, ?_, OwnR.nil _ _, OwnBl.nil _ _, OwnR.nil _ _, (fun g h => by cases h), by rw [q2]; omega, by rw [q4]; omega, by rw [q3]; omega⟩
    · unfold machCells
      rw [q6, q8, q10, q11]
      exact g5.blk HM8.out (by decide) (by decide)
    · rw [q7, q9, ← ha]
      exact hnet
    · rw [q2]
      exact ints_empty hmap
  have hRlt : (w.heap.size + 1 + 1 + 1 + 1 + 1) < w9.heap.size := by omega
  have hB9 : w.heap.size ≤ w9.heap.size := by omega
  have hgM : 0 ≠ a.M := by rw [q6]; exact hMg
  have p9 : w9.cell? ⟨a.bP, 0, none⟩ = some (.pointer (some ⟨a.M, 0, none⟩)) := hSt.p
  have c5 : w9.cell? ⟨a.M, 5, none⟩ = some (.slice none 0 0) := hSt.m.2.2.1
  have HQ := Lib.hid (And.intro q6 (And.intro q8 (And.intro q9 (And.intro q10 (And.intro q11 q5)))))
  have HSt := Lib.hid hSt
  rw [← q4, ← q1, ← q3, ← q7, ← q5]
  clear q1 q2 q3 q4 q5 q6 q7 q8 q9 q10 q11 ha hSt g1 g2 g3 g4 g5 g6 g7 F2 F5 F6 F7 F8 HM8 HC8 hnet HA HKM8
  generalize hR0 : (w.heap.size + 1 + 1 + 1 + 1 + 1) = R at HSt hRlt
  clear hR0
  go_wp2_with fail
  go_cut [] (fun wx => ∃ A c, Hid (MS w.heap.size R w a [[1]] [] (.slice none 0 0) (.slice A 1 c) wx) ∧ Hid (IsI R wx (.slice A 1 c) [0]))
  case first =>
    refine wp_region_held_drew (S := fun (w' : World) => w'.cell? ⟨a.bP, 0, none⟩ = some (.pointer (some ⟨a.M, 0, none⟩))) (by kernel_rfl) p9 ?_
    intro hHeld
    have c0 := p9
    refine wpAnyH_take (i := 0) (v := ?_) rfl (by kernel_rfl) (by kernel_rfl) (by kernel_rfl) (fun _ _ _ h => h) (Or.inl ⟨by rfl, ?_⟩) (by assumption) ?_
    rotate_left 1
    · intro w hSw
      (try dsimp only at hSw)
      go_simp
      (try with_reducible rfl)
    refine wpAnyH_take (i := 1) (v := ?_) rfl (by kernel_rfl) (by kernel_rfl) (by kernel_rfl) (fun _ _ _ h => h) (Or.inl ⟨by rfl, ?_⟩) (by assumption) ?_
    rotate_left 1
    · intro w hSw
      (try dsimp only at hSw)
      go_simp
      (try with_reducible rfl)
    refine wpAnyH_take (i := 2) (v := ?_) rfl (by kernel_rfl) (by kernel_rfl) (by kernel_rfl) (fun _ _ _ h => h) (Or.inl ⟨by rfl, ?_⟩) (by assumption) ?_
    rotate_left 1
    · intro w hSw
      (try dsimp only at hSw)
      go_simp
      (try with_reducible rfl)
    refine wpAnyH_take (i := 3) (v := ?_) rfl (by kernel_rfl) (by kernel_rfl) (by kernel_rfl) (fun _ _ _ h => h) (Or.inl ⟨by rfl, ?_⟩) (by assumption) ?_
    rotate_left 1
    · intro w hSw
      (try dsimp only at hSw)
      go_simp
      (try with_reducible rfl)
    refine wpAnyH_take (i := 5) (v := ?_) rfl (by kernel_rfl) (by kernel_rfl) (by kernel_rfl) (fun _ _ _ h => h) (Or.inl ⟨by rfl, ?_⟩) (by assumption) ?_
    rotate_left 1
    · intro w hSw
      (try dsimp only at hSw)
      go_simp
      (try with_reducible rfl)
    refine wpAnyH_take (i := 6) (v := ?_) rfl (by kernel_rfl) (by kernel_rfl) (by kernel_rfl) (fun _ _ _ h => h) (Or.inl ⟨by rfl, ?_⟩) (by assumption) ?_
    rotate_left 1
    · intro w hSw
      (try dsimp only at hSw)
      go_simp
      (try with_reducible rfl)
    clear hHeld
    refine wpAnyH_ready (rs := [4, 7]) (by kernel_rfl) (by simp) ?_
    refine AllReadyH.cons rfl (fun K hK => ?_) (AllReadyH.cons rfl (fun K hK => ?_) AllReadyH.nil)
    · skip
      go_simp
      refine hK.out _ _ c0 (fun _ => ?_)
      clear hK K
      refine wpAnyH_ready (rs := [7]) (by kernel_rfl) (by simp) ?_
      refine AllReadyH.cons rfl (fun K hK => ?_) AllReadyH.nil
      go_simp
      have HS1 := Lib.hid (HSt.out.keep (bBox w9 (.cells #[.int .i64 1] 3)).drew)
      have hi1 : IntsAt (w9.alloc (.cells #[.int .i64 1] 3)).drew (some ⟨w9.heap.size, 0, none⟩) [1] := ints_new w9 [1] _
      have HC1 := Lib.hid (clos1 a.N a.k a.net _ 1 _ HS1.out.net hi1)
      have hR1 : R < (w9.alloc (.cells #[.int .i64 1] 3)).drew.heap.size := HS1.out.lR
      clear hi1
      replace c0 : (w9.alloc (.cells #[.int .i64 1] 3)).drew.cell? ⟨a.bP, 0, none⟩ = some (.pointer (some ⟨a.M, 0, none⟩)) := HS1.out.p
      replace c5 : (w9.alloc (.cells #[.int .i64 1] 3)).drew.cell? ⟨a.M, 5, none⟩ = some (.slice none 0 0) := HS1.out.m.2.2.1
      refine hK.out _ _ c0 (fun _ => ?_)
      clear hK K
      refine wpAnyH_ready (rs := [8]) (by kernel_rfl) (by simp) ?_
      refine AllReadyH.cons rfl (fun K hK => ?_) AllReadyH.nil
      go_simp
      refine HC1.out.mono ?_
      rintro e5 w5 ⟨v5, rfl, hO5, hb5⟩
      have hI5 := hO5.out.isI hR1
      have HS5 := Lib.hid (HS1.out.keep hb5)
      obtain ⟨A5, c5', rfl⟩ := hO5.out.form
      clear hb5 hO5 HC1
      have HNum := Lib.hid (HS5.out.num hE8.out hgB hgM (.inl rfl) hI5 (by decide))
      clear hI5
      replace c0 : w5.cell? ⟨a.bP, 0, none⟩ = some (.pointer (some ⟨a.M, 0, none⟩)) := HS5.out.p
      replace c5 : w5.cell? ⟨a.M, 5, none⟩ = some (.slice none 0 0) := HS5.out.m.2.2.1
      refine hK.out _ _ c0 (fun _ => ?_)
      clear hK K
      refine wpAnyH_ready (rs := [9]) (by kernel_rfl) (by simp) ?_
      refine AllReadyH.cons rfl (fun K hK => ?_) AllReadyH.nil
      go_simp
      refine HNum.out.mono ?_
      intro e6 w6 hNr
      have he6 := hNr.1
      have hSx := hNr.2.1
      clear hNr
      obtain rfl : e6 = .returned (.int .i64 0) := he6
      have HS6 : Hid (MS w.heap.size R w a [[1]] [] (.slice none 0 0) (.slice none 0 0) w6) := Lib.hid hSx.out
      clear HNum hSx
      replace c0 : w6.cell? ⟨a.bP, 0, none⟩ = some (.pointer (some ⟨a.M, 0, none⟩)) := HS6.out.p
      replace c5 : w6.cell? ⟨a.M, 5, none⟩ = some (.slice none 0 0) := HS6.out.m.2.2.1
      refine hK.out _ _ c0 (fun _ => ?_)
      clear hK K
      refine wpAnyH_ready (rs := [10]) (by kernel_rfl) (by simp) ?_
      refine AllReadyH.cons rfl (fun K hK => ?_) AllReadyH.nil
      go_simp
      have HS8 := Lib.hid (HS6.out.keep (bBox w6 (.cells #[.int .i64 0] 3)))
      have HI8 : Hid (IntsAt (w6.alloc (.cells #[.int .i64 0] 3)) (some ⟨w6.heap.size, 0, none⟩) [0]) := Lib.hid (ints_new _ [0] _)
      replace c0 : (w6.alloc (.cells #[.int .i64 0] 3)).cell? ⟨a.bP, 0, none⟩ = some (.pointer (some ⟨a.M, 0, none⟩)) := HS8.out.p
      replace c5 : (w6.alloc (.cells #[.int .i64 0] 3)).cell? ⟨a.M, 5, none⟩ = some (.slice none 0 0) := HS8.out.m.2.2.1
      refine hK.out _ _ c0 (fun _ => ?_)
      clear hK K
      refine wpAnyH_ready (rs := [11]) (by kernel_rfl) (by simp) ?_
      refine AllReadyH.cons rfl (fun K hK => ?_) AllReadyH.nil
      refine stepI rfl _ _ rfl (w6.alloc (.cells #[.int .i64 0] 3)).heap.size rfl (OwnI.nil _ _) [0] rfl HI8.out (by decide) (by decide) (Nat.le_refl _) ?_
      intro v7 w7 hO7 hb7
      replace hb7 := hb7 _ (Below.refl _ _)
      have HS9 := Lib.hid (HS8.out.keep hb7)
      have hR8 : R < (w6.alloc (.cells #[.int .i64 0] 3)).heap.size := HS8.out.lR
      have HI9 := Lib.hid (hO7.out.isI hR8)
      obtain ⟨A7, c7, rfl⟩ := hO7.out.form
      clear hO7 hb7
      have e0 : w7.cell? ⟨a.bP, 0, none⟩ = some (.pointer (some ⟨a.M, 0, none⟩)) := HS9.out.p
      have e5 : w7.cell? ⟨a.M, 5, none⟩ = some (.slice none 0 0) := HS9.out.m.2.2.1
      have e6 := HS9.out.m.2.2.2.1 5
      refine hK.out _ _ e0 (fun hHeld => ?_)
      clear hK K
      refine wpAnyH_take (i := 12) (v := ?_) rfl (by kernel_rfl) (by kernel_rfl) (by kernel_rfl) (fun _ _ _ h => h) (Or.inl ⟨by rfl, ?_⟩) (by assumption) ?_
      rotate_left 1
      · intro w hSw
        (try dsimp only at hSw)
        go_simp
        (try with_reducible rfl)
      refine wpAnyH_take (i := 13) (v := ?_) rfl (by kernel_rfl) (by kernel_rfl) (by kernel_rfl) (fun _ _ _ h => h) (Or.inl ⟨by rfl, ?_⟩) (by assumption) ?_
      rotate_left 1
      · intro w hSw
        (try dsimp only at hSw)
        go_simp
        (try with_reducible rfl)
      clear hHeld
      have HS10 := Lib.hid (HS9.out.rooted (.slice A7 1 c7))
      have HI10 := Lib.hid (HI9.out.away (grown_set w7 ⟨a.M, 5, none⟩ (.slice A7 1 c7)) (.inr HS9.out.away))
      refine wpAnyH_ready (rs := [14]) (by kernel_rfl) (by simp) ?_
      refine AllReadyH.cons rfl (fun K hK => ?_) AllReadyH.nil
      go_simp
      refine hK.out _ _ HS10.out.p (fun _ => ?_)
      clear hK K
      refine wpAnyH_done (by kernel_rfl) ?_ _
      clear e0 e5 e6 c0 c5
      go_wp2_with fail
      go_meet
      exact ⟨A7, c7, HS10, HI10⟩
    · skip
      go_simp
      have HS1 := Lib.hid (HSt.out.keep (bBox w9 (.cells #[.int .i64 1] 3)).drew)
      have hi1 : IntsAt (w9.alloc (.cells #[.int .i64 1] 3)).drew (some ⟨w9.heap.size, 0, none⟩) [1] := ints_new w9 [1] _
      have HC1 := Lib.hid (clos1 a.N a.k a.net _ 1 _ HS1.out.net hi1)
      have hR1 : R < (w9.alloc (.cells #[.int .i64 1] 3)).drew.heap.size := HS1.out.lR
      clear hi1
      replace c0 : (w9.alloc (.cells #[.int .i64 1] 3)).drew.cell? ⟨a.bP, 0, none⟩ = some (.pointer (some ⟨a.M, 0, none⟩)) := HS1.out.p
      replace c5 : (w9.alloc (.cells #[.int .i64 1] 3)).drew.cell? ⟨a.M, 5, none⟩ = some (.slice none 0 0) := HS1.out.m.2.2.1
      refine hK.out _ _ c0 (fun _ => ?_)
      clear hK K
      refine wpAnyH_ready (rs := [4, 8]) (by kernel_rfl) (by simp) ?_
      refine AllReadyH.cons rfl (fun K hK => ?_) (AllReadyH.cons rfl (fun K hK => ?_) AllReadyH.nil)
      · skip
        go_simp
        refine hK.out _ _ c0 (fun _ => ?_)
        clear hK K
        refine wpAnyH_ready (rs := [8]) (by kernel_rfl) (by simp) ?_
        refine AllReadyH.cons rfl (fun K hK => ?_) AllReadyH.nil
        go_simp
        refine HC1.out.mono ?_
        rintro e5 w5 ⟨v5, rfl, hO5, hb5⟩
        have hI5 := hO5.out.isI hR1
        have HS5 := Lib.hid (HS1.out.keep hb5)
        obtain ⟨A5, c5', rfl⟩ := hO5.out.form
        clear hb5 hO5 HC1
        have HNum := Lib.hid (HS5.out.num hE8.out hgB hgM (.inl rfl) hI5 (by decide))
        clear hI5
        replace c0 : w5.cell? ⟨a.bP, 0, none⟩ = some (.pointer (some ⟨a.M, 0, none⟩)) := HS5.out.p
        replace c5 : w5.cell? ⟨a.M, 5, none⟩ = some (.slice none 0 0) := HS5.out.m.2.2.1
        refine hK.out _ _ c0 (fun _ => ?_)
        clear hK K
        refine wpAnyH_ready (rs := [9]) (by kernel_rfl) (by simp) ?_
        refine AllReadyH.cons rfl (fun K hK => ?_) AllReadyH.nil
        go_simp
        refine HNum.out.mono ?_
        intro e6 w6 hNr
        have he6 := hNr.1
        have hSx := hNr.2.1
        clear hNr
        obtain rfl : e6 = .returned (.int .i64 0) := he6
        have HS6 : Hid (MS w.heap.size R w a [[1]] [] (.slice none 0 0) (.slice none 0 0) w6) := Lib.hid hSx.out
        clear HNum hSx
        replace c0 : w6.cell? ⟨a.bP, 0, none⟩ = some (.pointer (some ⟨a.M, 0, none⟩)) := HS6.out.p
        replace c5 : w6.cell? ⟨a.M, 5, none⟩ = some (.slice none 0 0) := HS6.out.m.2.2.1
        refine hK.out _ _ c0 (fun _ => ?_)
        clear hK K
        refine wpAnyH_ready (rs := [10]) (by kernel_rfl) (by simp) ?_
        refine AllReadyH.cons rfl (fun K hK => ?_) AllReadyH.nil
        go_simp
        have HS8 := Lib.hid (HS6.out.keep (bBox w6 (.cells #[.int .i64 0] 3)))
        have HI8 : Hid (IntsAt (w6.alloc (.cells #[.int .i64 0] 3)) (some ⟨w6.heap.size, 0, none⟩) [0]) := Lib.hid (ints_new _ [0] _)
        replace c0 : (w6.alloc (.cells #[.int .i64 0] 3)).cell? ⟨a.bP, 0, none⟩ = some (.pointer (some ⟨a.M, 0, none⟩)) := HS8.out.p
        replace c5 : (w6.alloc (.cells #[.int .i64 0] 3)).cell? ⟨a.M, 5, none⟩ = some (.slice none 0 0) := HS8.out.m.2.2.1
        refine hK.out _ _ c0 (fun _ => ?_)
        clear hK K
        refine wpAnyH_ready (rs := [11]) (by kernel_rfl) (by simp) ?_
        refine AllReadyH.cons rfl (fun K hK => ?_) AllReadyH.nil
        refine stepI rfl _ _ rfl (w6.alloc (.cells #[.int .i64 0] 3)).heap.size rfl (OwnI.nil _ _) [0] rfl HI8.out (by decide) (by decide) (Nat.le_refl _) ?_
        intro v7 w7 hO7 hb7
        replace hb7 := hb7 _ (Below.refl _ _)
        have HS9 := Lib.hid (HS8.out.keep hb7)
        have hR8 : R < (w6.alloc (.cells #[.int .i64 0] 3)).heap.size := HS8.out.lR
        have HI9 := Lib.hid (hO7.out.isI hR8)
        obtain ⟨A7, c7, rfl⟩ := hO7.out.form
        clear hO7 hb7
        have e0 : w7.cell? ⟨a.bP, 0, none⟩ = some (.pointer (some ⟨a.M, 0, none⟩)) := HS9.out.p
        have e5 : w7.cell? ⟨a.M, 5, none⟩ = some (.slice none 0 0) := HS9.out.m.2.2.1
        have e6 := HS9.out.m.2.2.2.1 5
        refine hK.out _ _ e0 (fun hHeld => ?_)
        clear hK K
        refine wpAnyH_take (i := 12) (v := ?_) rfl (by kernel_rfl) (by kernel_rfl) (by kernel_rfl) (fun _ _ _ h => h) (Or.inl ⟨by rfl, ?_⟩) (by assumption) ?_
        rotate_left 1
        · intro w hSw
          (try dsimp only at hSw)
          go_simp
          (try with_reducible rfl)
        refine wpAnyH_take (i := 13) (v := ?_) rfl (by kernel_rfl) (by kernel_rfl) (by kernel_rfl) (fun _ _ _ h => h) (Or.inl ⟨by rfl, ?_⟩) (by assumption) ?_
        rotate_left 1
        · intro w hSw
          (try dsimp only at hSw)
          go_simp
          (try with_reducible rfl)
        clear hHeld
        have HS10 := Lib.hid (HS9.out.rooted (.slice A7 1 c7))
        have HI10 := Lib.hid (HI9.out.away (grown_set w7 ⟨a.M, 5, none⟩ (.slice A7 1 c7)) (.inr HS9.out.away))
        refine wpAnyH_ready (rs := [14]) (by kernel_rfl) (by simp) ?_
        refine AllReadyH.cons rfl (fun K hK => ?_) AllReadyH.nil
        go_simp
        refine hK.out _ _ HS10.out.p (fun _ => ?_)
        clear hK K
        refine wpAnyH_done (by kernel_rfl) ?_ _
        clear e0 e5 e6 c0 c5
        go_wp2_with fail
        go_meet
        exact ⟨A7, c7, HS10, HI10⟩
      · skip
        go_simp
        refine HC1.out.mono ?_
        rintro e5 w5 ⟨v5, rfl, hO5, hb5⟩
        have hI5 := hO5.out.isI hR1
        have HS5 := Lib.hid (HS1.out.keep hb5)
        obtain ⟨A5, c5', rfl⟩ := hO5.out.form
        clear hb5 hO5 HC1
        have HNum := Lib.hid (HS5.out.num hE8.out hgB hgM (.inl rfl) hI5 (by decide))
        clear hI5
        replace c0 : w5.cell? ⟨a.bP, 0, none⟩ = some (.pointer (some ⟨a.M, 0, none⟩)) := HS5.out.p
        replace c5 : w5.cell? ⟨a.M, 5, none⟩ = some (.slice none 0 0) := HS5.out.m.2.2.1
        refine hK.out _ _ c0 (fun _ => ?_)
        clear hK K
        refine wpAnyH_ready (rs := [4, 9]) (by kernel_rfl) (by simp) ?_
        refine AllReadyH.cons rfl (fun K hK => ?_) (AllReadyH.cons rfl (fun K hK => ?_) AllReadyH.nil)
        · skip
          go_simp
          refine hK.out _ _ c0 (fun _ => ?_)
          clear hK K
          refine wpAnyH_ready (rs := [9]) (by kernel_rfl) (by simp) ?_
          refine AllReadyH.cons rfl (fun K hK => ?_) AllReadyH.nil
          go_simp
          refine HNum.out.mono ?_
          intro e6 w6 hNr
          have he6 := hNr.1
          have hSx := hNr.2.1
          clear hNr
          obtain rfl : e6 = .returned (.int .i64 0) := he6
          have HS6 : Hid (MS w.heap.size R w a [[1]] [] (.slice none 0 0) (.slice none 0 0) w6) := Lib.hid hSx.out
          clear HNum hSx
          replace c0 : w6.cell? ⟨a.bP, 0, none⟩ = some (.pointer (some ⟨a.M, 0, none⟩)) := HS6.out.p
          replace c5 : w6.cell? ⟨a.M, 5, none⟩ = some (.slice none 0 0) := HS6.out.m.2.2.1
          refine hK.out _ _ c0 (fun _ => ?_)
          clear hK K
          refine wpAnyH_ready (rs := [10]) (by kernel_rfl) (by simp) ?_
          refine AllReadyH.cons rfl (fun K hK => ?_) AllReadyH.nil
          go_simp
          have HS8 := Lib.hid (HS6.out.keep (bBox w6 (.cells #[.int .i64 0] 3)))
          have HI8 : Hid (IntsAt (w6.alloc (.cells #[.int .i64 0] 3)) (some ⟨w6.heap.size, 0, none⟩) [0]) := Lib.hid (ints_new _ [0] _)
          replace c0 : (w6.alloc (.cells #[.int .i64 0] 3)).cell? ⟨a.bP, 0, none⟩ = some (.pointer (some ⟨a.M, 0, none⟩)) := HS8.out.p
          replace c5 : (w6.alloc (.cells #[.int .i64 0] 3)).cell? ⟨a.M, 5, none⟩ = some (.slice none 0 0) := HS8.out.m.2.2.1
          refine hK.out _ _ c0 (fun _ => ?_)
          clear hK K
          refine wpAnyH_ready (rs := [11]) (by kernel_rfl) (by simp) ?_
          refine AllReadyH.cons rfl (fun K hK => ?_) AllReadyH.nil
          refine stepI rfl _ _ rfl (w6.alloc (.cells #[.int .i64 0] 3)).heap.size rfl (OwnI.nil _ _) [0] rfl HI8.out (by decide) (by decide) (Nat.le_refl _) ?_
          intro v7 w7 hO7 hb7
          replace hb7 := hb7 _ (Below.refl _ _)
          have HS9 := Lib.hid (HS8.out.keep hb7)
          have hR8 : R < (w6.alloc (.cells #[.int .i64 0] 3)).heap.size := HS8.out.lR
          have HI9 := Lib.hid (hO7.out.isI hR8)
          obtain ⟨A7, c7, rfl⟩ := hO7.out.form
          clear hO7 hb7
          have e0 : w7.cell? ⟨a.bP, 0, none⟩ = some (.pointer (some ⟨a.M, 0, none⟩)) := HS9.out.p
          have e5 : w7.cell? ⟨a.M, 5, none⟩ = some (.slice none 0 0) := HS9.out.m.2.2.1
          have e6 := HS9.out.m.2.2.2.1 5
          refine hK.out _ _ e0 (fun hHeld => ?_)
          clear hK K
          refine wpAnyH_take (i := 12) (v := ?_) rfl (by kernel_rfl) (by kernel_rfl) (by kernel_rfl) (fun _ _ _ h => h) (Or.inl ⟨by rfl, ?_⟩) (by assumption) ?_
          rotate_left 1
          · intro w hSw
            (try dsimp only at hSw)
            go_simp
            (try with_reducible rfl)
          refine wpAnyH_take (i := 13) (v := ?_) rfl (by kernel_rfl) (by kernel_rfl) (by kernel_rfl) (fun _ _ _ h => h) (Or.inl ⟨by rfl, ?_⟩) (by assumption) ?_
          rotate_left 1
          · intro w hSw
            (try dsimp only at hSw)
            go_simp
            (try with_reducible rfl)
          clear hHeld
          have HS10 := Lib.hid (HS9.out.rooted (.slice A7 1 c7))
          have HI10 := Lib.hid (HI9.out.away (grown_set w7 ⟨a.M, 5, none⟩ (.slice A7 1 c7)) (.inr HS9.out.away))
          refine wpAnyH_ready (rs := [14]) (by kernel_rfl) (by simp) ?_
          refine AllReadyH.cons rfl (fun K hK => ?_) AllReadyH.nil
          go_simp
          refine hK.out _ _ HS10.out.p (fun _ => ?_)
          clear hK K
          refine wpAnyH_done (by kernel_rfl) ?_ _
          clear e0 e5 e6 c0 c5
          go_wp2_with fail
          go_meet
          exact ⟨A7, c7, HS10, HI10⟩
        · skip
          go_simp
          refine HNum.out.mono ?_
          intro e6 w6 hNr
          have he6 := hNr.1
          have hSx := hNr.2.1
          clear hNr
          obtain rfl : e6 = .returned (.int .i64 0) := he6
          have HS6 : Hid (MS w.heap.size R w a [[1]] [] (.slice none 0 0) (.slice none 0 0) w6) := Lib.hid hSx.out
          clear HNum hSx
          replace c0 : w6.cell? ⟨a.bP, 0, none⟩ = some (.pointer (some ⟨a.M, 0, none⟩)) := HS6.out.p
          replace c5 : w6.cell? ⟨a.M, 5, none⟩ = some (.slice none 0 0) := HS6.out.m.2.2.1
          refine hK.out _ _ c0 (fun _ => ?_)
          clear hK K
          refine wpAnyH_ready (rs := [4, 10]) (by kernel_rfl) (by simp) ?_
          refine AllReadyH.cons rfl (fun K hK => ?_) (AllReadyH.cons rfl (fun K hK => ?_) AllReadyH.nil)
          · skip
            go_simp
            refine hK.out _ _ c0 (fun _ => ?_)
            clear hK K
            refine wpAnyH_ready (rs := [10]) (by kernel_rfl) (by simp) ?_
            refine AllReadyH.cons rfl (fun K hK => ?_) AllReadyH.nil
            go_simp
            have HS8 := Lib.hid (HS6.out.keep (bBox w6 (.cells #[.int .i64 0] 3)))
            have HI8 : Hid (IntsAt (w6.alloc (.cells #[.int .i64 0] 3)) (some ⟨w6.heap.size, 0, none⟩) [0]) := Lib.hid (ints_new _ [0] _)
            replace c0 : (w6.alloc (.cells #[.int .i64 0] 3)).cell? ⟨a.bP, 0, none⟩ = some (.pointer (some ⟨a.M, 0, none⟩)) := HS8.out.p
            replace c5 : (w6.alloc (.cells #[.int .i64 0] 3)).cell? ⟨a.M, 5, none⟩ = some (.slice none 0 0) := HS8.out.m.2.2.1
            refine hK.out _ _ c0 (fun _ => ?_)
            clear hK K
            refine wpAnyH_ready (rs := [11]) (by kernel_rfl) (by simp) ?_
            refine AllReadyH.cons rfl (fun K hK => ?_) AllReadyH.nil
            refine stepI rfl _ _ rfl (w6.alloc (.cells #[.int .i64 0] 3)).heap.size rfl (OwnI.nil _ _) [0] rfl HI8.out (by decide) (by decide) (Nat.le_refl _) ?_
            intro v7 w7 hO7 hb7
            replace hb7 := hb7 _ (Below.refl _ _)
            have HS9 := Lib.hid (HS8.out.keep hb7)
            have hR8 : R < (w6.alloc (.cells #[.int .i64 0] 3)).heap.size := HS8.out.lR
            have HI9 := Lib.hid (hO7.out.isI hR8)
            obtain ⟨A7, c7, rfl⟩ := hO7.out.form
            clear hO7 hb7
            have e0 : w7.cell? ⟨a.bP, 0, none⟩ = some (.pointer (some ⟨a.M, 0, none⟩)) := HS9.out.p
            have e5 : w7.cell? ⟨a.M, 5, none⟩ = some (.slice none 0 0) := HS9.out.m.2.2.1
            have e6 := HS9.out.m.2.2.2.1 5
            refine hK.out _ _ e0 (fun hHeld => ?_)
            clear hK K
            refine wpAnyH_take (i := 12) (v := ?_) rfl (by kernel_rfl) (by kernel_rfl) (by kernel_rfl) (fun _ _ _ h => h) (Or.inl ⟨by rfl, ?_⟩) (by assumption) ?_
            rotate_left 1
            · intro w hSw
              (try dsimp only at hSw)
              go_simp
              (try with_reducible rfl)
            refine wpAnyH_take (i := 13) (v := ?_) rfl (by kernel_rfl) (by kernel_rfl) (by kernel_rfl) (fun _ _ _ h => h) (Or.inl ⟨by rfl, ?_⟩) (by assumption) ?_
            rotate_left 1
            · intro w hSw
              (try dsimp only at hSw)
              go_simp
              (try with_reducible rfl)
            clear hHeld
            have HS10 := Lib.hid (HS9.out.rooted (.slice A7 1 c7))
            have HI10 := Lib.hid (HI9.out.away (grown_set w7 ⟨a.M, 5, none⟩ (.slice A7 1 c7)) (.inr HS9.out.away))
            refine wpAnyH_ready (rs := [14]) (by kernel_rfl) (by simp) ?_
            refine AllReadyH.cons rfl (fun K hK => ?_) AllReadyH.nil
            go_simp
            refine hK.out _ _ HS10.out.p (fun _ => ?_)
            clear hK K
            refine wpAnyH_done (by kernel_rfl) ?_ _
            clear e0 e5 e6 c0 c5
            go_wp2_with fail
            go_meet
            exact ⟨A7, c7, HS10, HI10⟩
          · skip
            go_simp
            have HS8 := Lib.hid (HS6.out.keep (bBox w6 (.cells #[.int .i64 0] 3)))
            have HI8 : Hid (IntsAt (w6.alloc (.cells #[.int .i64 0] 3)) (some ⟨w6.heap.size, 0, none⟩) [0]) := Lib.hid (ints_new _ [0] _)
            replace c0 : (w6.alloc (.cells #[.int .i64 0] 3)).cell? ⟨a.bP, 0, none⟩ = some (.pointer (some ⟨a.M, 0, none⟩)) := HS8.out.p
            replace c5 : (w6.alloc (.cells #[.int .i64 0] 3)).cell? ⟨a.M, 5, none⟩ = some (.slice none 0 0) := HS8.out.m.2.2.1
            refine hK.out _ _ c0 (fun _ => ?_)
            clear hK K
            refine wpAnyH_ready (rs := [4]) (by kernel_rfl) (by simp) ?_
            refine AllReadyH.cons rfl (fun K hK => ?_) AllReadyH.nil
            go_simp
            refine hK.out _ _ c0 (fun _ => ?_)
            clear hK K
            refine wpAnyH_ready (rs := [11]) (by kernel_rfl) (by simp) ?_
            refine AllReadyH.cons rfl (fun K hK => ?_) AllReadyH.nil
            refine stepI rfl _ _ rfl (w6.alloc (.cells #[.int .i64 0] 3)).heap.size rfl (OwnI.nil _ _) [0] rfl HI8.out (by decide) (by decide) (Nat.le_refl _) ?_
            intro v7 w7 hO7 hb7
            replace hb7 := hb7 _ (Below.refl _ _)
            have HS9 := Lib.hid (HS8.out.keep hb7)
            have hR8 : R < (w6.alloc (.cells #[.int .i64 0] 3)).heap.size := HS8.out.lR
            have HI9 := Lib.hid (hO7.out.isI hR8)
            obtain ⟨A7, c7, rfl⟩ := hO7.out.form
            clear hO7 hb7
            have e0 : w7.cell? ⟨a.bP, 0, none⟩ = some (.pointer (some ⟨a.M, 0, none⟩)) := HS9.out.p
            have e5 : w7.cell? ⟨a.M, 5, none⟩ = some (.slice none 0 0) := HS9.out.m.2.2.1
            have e6 := HS9.out.m.2.2.2.1 5
            refine hK.out _ _ e0 (fun hHeld => ?_)
            clear hK K
            refine wpAnyH_take (i := 12) (v := ?_) rfl (by kernel_rfl) (by kernel_rfl) (by kernel_rfl) (fun _ _ _ h => h) (Or.inl ⟨by rfl, ?_⟩) (by assumption) ?_
            rotate_left 1
            · intro w hSw
              (try dsimp only at hSw)
              go_simp
              (try with_reducible rfl)
            refine wpAnyH_take (i := 13) (v := ?_) rfl (by kernel_rfl) (by kernel_rfl) (by kernel_rfl) (fun _ _ _ h => h) (Or.inl ⟨by rfl, ?_⟩) (by assumption) ?_
            rotate_left 1
            · intro w hSw
              (try dsimp only at hSw)
              go_simp
              (try with_reducible rfl)
            clear hHeld
            have HS10 := Lib.hid (HS9.out.rooted (.slice A7 1 c7))
            have HI10 := Lib.hid (HI9.out.away (grown_set w7 ⟨a.M, 5, none⟩ (.slice A7 1 c7)) (.inr HS9.out.away))
            refine wpAnyH_ready (rs := [14]) (by kernel_rfl) (by simp) ?_
            refine AllReadyH.cons rfl (fun K hK => ?_) AllReadyH.nil
            go_simp
            refine hK.out _ _ HS10.out.p (fun _ => ?_)
            clear hK K
            refine wpAnyH_done (by kernel_rfl) ?_ _
            clear e0 e5 e6 c0 c5
            go_wp2_with fail
            go_meet
            exact ⟨A7, c7, HS10, HI10⟩
  case rest =>
    obtain ⟨A7, c7, HS7, HI7⟩ := hcut
    have hk' : a.k = 0 ∨ a.k = 1 := by rw [HQ.out.2.2.1]; exact hk
    have HML := Lib.hid (fun i (hi : i ≤ 3) => mach_len hk' hi)
    clear hk
    have hmk : ∀ w, (Instr.makeSlice 23 (.int .i64 2) (.int .i64 2)).run Tryd.prog w = .ok (.slice (some ⟨w.heap.size, 0, none⟩) 2 2) (w.alloc (.cells (intVals [0, 0]).toArray 3)) := fun w => makeI 2 (by decide) w
    clear hmm hmf p9 c5 HSt
    go_wp2_with fail
    go_loopw [10] (fun i wr => ∃ (m R0 : Nat) (nv rv : Value), m ≤ 3 ∧ i = .int .i64 m ∧ Hid (MS w.heap.size R0 w a (machRun a.k m).1 (machRun a.k m).2 nv rv wr) ∧ Hid (IsI R0 wr rv [0])) (fun i _ => 3 - (intOf i).toNat)
    case atStart => exact ⟨0, R, _, _, by decide, rfl, HS7, HI7⟩
    case round =>
      obtain ⟨m, R0, nv, rv, hm, rfl, HS, HI⟩ := hrel
      obtain ⟨hl1, hl2, hl3⟩ := HML.out m hm
      obtain ⟨As0, cs0, z0, -⟩ := HS.out.sets
      have z1 : wr.cell? ⟨a.bP, 0, none⟩ = some (.pointer (some ⟨a.M, 0, none⟩)) := HS.out.p
      have z2 : wr.cell? ⟨a.M, 0, none⟩ = some (.int .i64 2) := by rw [← HQ.out.2.1]; exact HS.out.m.1
      obtain ⟨y1, y2, y3⟩ := HS.out.lt
      by_cases hlt : m < 3
      · have hmi : (m : Int) < (machRun a.k m).1.length := by have := hl2.2 hlt; omega
        have HL := Lib.hid (fun c hc => hl3 c hc hlt)
        have HNext := Lib.hid (show machRun a.k (m + 1) = ((rowRun a.k (machRun a.k m).1 m 2).1, (machRun a.k m).2 ++ [(rowRun a.k (machRun a.k m).1 m 2).2]) from rfl)
        have HNx := Lib.hid (show (machRun a.k m).2.length = m from mach_rows a.k m)
        clear hl3
        generalize hss : (machRun a.k m).1 = ss at *
        generalize hnx : (machRun a.k m).2 = nx at *
        have Hss := Lib.hid hss
        have Hnx := Lib.hid hnx
        have Hl2 := Lib.hid hl2
        clear hss hnx hl2
        go_wp2_with fail
        have HS1 := Lib.hid (HS.out.newRow (.cells (intVals [0, 0]).toArray 3))
        have HI1 := Lib.hid ((HI.out.other (Nat.le_refl _)).keep (bBox wr (.cells (intVals [0, 0]).toArray 3)))
        have HA1 : Hid (Arr (wr.alloc (.cells (intVals [0, 0]).toArray 3)) wr.heap.size [0, 0]) := Lib.hid (Blk.new _ _ _)
        have hBR : w.heap.size ≤ wr.heap.size := HS.out.m.2.2.2.2
        generalize wr.alloc (.cells (intVals [0, 0]).toArray 3) = w1 at HS1 HI1 HA1 ⊢
        generalize wr.heap.size = Rr at HS1 HI1 HA1 hBR ⊢
        clear z0 z1 z2 y1 y2 y3 hmk HS HI hmi
        go_loopw [58] (fun j wq => ∃ c : Nat, c ≤ 2 ∧ j = .int .i64 c ∧ Hid (MS w.heap.size Rr w a (rowRun a.k ss m c).1 nx nv rv wq) ∧ Hid (Arr wq Rr ((rowRun a.k ss m c).2 ++ List.replicate (2 - c) 0)) ∧ Hid (IsI Rr wq rv [0])) (fun j _ => 2 - (intOf j).toNat)
        case atStart => exact ⟨0, by decide, rfl, HS1, HA1, HI1⟩
        case round =>
          clear HS1 HA1 HI1
          obtain ⟨c, hc, rfl, HSc, HAc, HIc⟩ := hrel
          obtain ⟨q1, q2, q3, q4⟩ := HL.out c hc
          by_cases hc2 : c < 2
          · have hci : (c : Int) < 2 := by omega
            have HRow := Lib.hid (show rowRun a.k ss m (c + 1) = (numL (rowRun a.k ss m c).1 (stepF a.k (rowAt (rowRun a.k ss m c).1 m) (c : Int)), (rowRun a.k ss m c).2 ++ [(idxL (rowRun a.k ss m c).1 (stepF a.k (rowAt (rowRun a.k ss m c).1 m) (c : Int)) : Int)]) from rfl)
            generalize (rowRun a.k ss m c).1 = sc at *
            generalize (rowRun a.k ss m c).2 = rc at *
            obtain ⟨As, cs, z0, HG⟩ := HSc.out.sets
            obtain ⟨bR, v, rfl, hbR, hcR, hIv⟩ := HG m q2
            clear HG
            have hmi : (m : Int) < sc.length := by omega
            have h3 : Three (rowAt sc m) := q3 _ (row_mem q2)
            generalize rowAt sc m = sm at hIv h3 HRow
            have HStep := Lib.hid (step a.N a.k c a.net sm v Rr wr h3 HSc.out.net hIv HSc.out.lR)
            obtain ⟨Av, cv, rfl, -⟩ := hIv
            have hsl : sm.length ≤ 1 := by rcases h3 with rfl | rfl | rfl <;> simp
            have hq1 : sc.length ≤ 1000 := by omega
            have HQ4 := Lib.hid q4
            have HQ3 := Lib.hid h3
            clear q1 q3 q4 h3
            go_wp2_with fail
            refine HStep.out.mono ?_
            rintro e5 w5 ⟨v5, rfl, hI5, hb5⟩
            clear HStep
            have HS5 := Lib.hid (HSc.out.keep hb5)
            have HA5 := Lib.hid (HAc.out.keep hb5)
            have HI5 := Lib.hid (HIc.out.keep hb5)
            have HNum := Lib.hid (HS5.out.num hE8.out hgB hgM (stepF_three a.k sm c) hI5.out hq1)
            generalize stepF a.k sm c = s5 at HNum HRow hI5
            obtain ⟨A5, c5, rfl, -⟩ := hI5.out
            clear hb5 HSc HAc HIc z0 hbR hcR
            go_wp2_with fail
            refine HNum.out.mono ?_
            intro e6 w6 hNr
            obtain ⟨rfl, HS6, HB6, HI6⟩ := hNr
            clear HNum
            have HA6 : Hid (Arr w6 Rr (rc ++ List.replicate (2 - c) 0)) := Lib.hid (HB6.out _ _ HA5.out)
            have HI7' := Lib.hid (HI6.out _ _ HI5.out)
            have hlen : c < (rc ++ List.replicate (2 - c) 0).length := by simp [HQ4.out]; omega
            have co := HA6.out.get hlen
            have hf : w6.frozen? ⟨Rr, c, none⟩ = false := HA6.out.frozen _
            clear HB6 HI6 HA5 HI5 HS5
            generalize nth (rc ++ List.replicate (2 - c) 0) c = old at co
            go_wp2_with fail
            go_roundw
            case rel =>
              refine ⟨c + 1, by omega, by go_num, ?_, ?_, Lib.hid (HI7'.out.away (grown_set w6 ⟨Rr, c, none⟩ _) (.inl rfl))⟩
              · rw [HRow.out]
                exact Lib.hid (HS6.out.rowed HA6.out hBR c _)
              · rw [HRow.out, ← row_set HQ4.out hc2]
                exact Lib.hid (HA6.out.set c _)
            case measure => simp [intOf]; omega
          · obtain rfl : c = 2 := by omega
            clear HL hc2 hc q1 q2 q3
            have hcn : ¬ ((2 : Nat) : Int) < 2 := by omega
            generalize (rowRun a.k ss m 2).1 = sc at *
            generalize (rowRun a.k ss m 2).2 = rc at *
            obtain ⟨An, cn, rfl⟩ := HSc.out.next
            have HQ4 := Lib.hid q4
            clear q4
            go_wp2_with fail
            refine wp_region_held_drew (S := fun (w' : World) => w'.cell? ⟨a.bP, 0, none⟩ = some (.pointer (some ⟨a.M, 0, none⟩))) (by kernel_rfl) HSc.out.p ?_
            intro hHeld
            have HSd := Lib.hid (HSc.out.keep (Below.refl _ _).drew)
            have HAd := Lib.hid (HAc.out.keep (Below.refl _ _).drew)
            have HId := Lib.hid (HIc.out.keep (Below.refl _ _).drew)
            generalize wr.drew = wd at HSd HAd HId ⊢
            have c0 : wd.cell? ⟨a.bP, 0, none⟩ = some (.pointer (some ⟨a.M, 0, none⟩)) := HSd.out.p
            have c3 : wd.cell? ⟨a.M, 3, none⟩ = some (.slice An nx.length cn) := HSd.out.m.2.1
            have HV : Hid (IsI wd.heap.size wd (.slice (some ⟨Rr, 0, none⟩) 2 2) rc) := Lib.hid (by
              have h := HAd.out.isI (R := wd.heap.size) (by have := HSd.out.lR; omega)
              rw [show 2 - 2 = 0 from rfl, List.replicate_zero, List.append_nil, HQ4.out] at h
              exact h)
            have HO := Lib.hid HSd.out.nrow.1
            have hB2 : w.heap.size ≤ wd.heap.size := HSd.out.nrow.2.2.2
            have hnx1 : nx.length + 1 ≤ 1000000 := by have := HNx.out; omega
            have HG := Lib.hid fun w' (hg : (wd.alloc (.cells #[.slice (some ⟨Rr, 0, none⟩) 2 2] 23)).grownBy w' (Value.slice An nx.length cn).ownBlock) => HSd.out.grown hg
            have HN' := Lib.hid fun w' nv' hg (ho : OwnR wd.heap.size w' w.heap.size nv' (nx ++ [rc])) hl => HSd.out.nexted (s := .slice (some ⟨Rr, 0, none⟩) 2 2) (w' := w') hg ho hl
            have HI0 := Lib.hid (HId.out.other (R' := wd.heap.size) (Nat.le_refl _))
            clear HAc HAd HId HSc HIc hcn
            refine wpAnyH_take (i := 0) (v := ?_) rfl (by kernel_rfl) (by kernel_rfl) (by kernel_rfl) (fun _ _ _ h => h) (Or.inl ⟨by rfl, ?_⟩) (by assumption) ?_
            rotate_left 1
            · intro w hSw
              (try dsimp only at hSw)
              go_simp
              (try with_reducible rfl)
            refine wpAnyH_take (i := 1) (v := ?_) rfl (by kernel_rfl) (by kernel_rfl) (by kernel_rfl) (fun _ _ _ h => h) (Or.inl ⟨by rfl, ?_⟩) (by assumption) ?_
            rotate_left 1
            · intro w hSw
              (try dsimp only at hSw)
              go_simp
              (try with_reducible rfl)
            refine wpAnyH_take (i := 2) (v := ?_) rfl (by kernel_rfl) (by kernel_rfl) (by kernel_rfl) (fun _ _ _ h => h) (Or.inl ⟨by rfl, ?_⟩) (by assumption) ?_
            rotate_left 1
            · intro w hSw
              (try dsimp only at hSw)
              go_simp
              (try with_reducible rfl)
            refine wpAnyH_take (i := 3) (v := ?_) rfl (by kernel_rfl) (by kernel_rfl) (by kernel_rfl) (fun _ _ _ h => h) (Or.inl ⟨by rfl, ?_⟩) (by assumption) ?_
            rotate_left 1
            · intro w hSw
              (try dsimp only at hSw)
              go_simp
              (try with_reducible rfl)
            refine wpAnyH_take (i := 5) (v := ?_) rfl (by kernel_rfl) (by kernel_rfl) (by kernel_rfl) (fun _ _ _ h => h) (Or.inl ⟨by rfl, ?_⟩) (by assumption) ?_
            rotate_left 1
            · intro w hSw
              (try dsimp only at hSw)
              go_simp
              (try with_reducible rfl)
            clear hHeld
            refine wpAnyH_ready (rs := [4, 6]) (by kernel_rfl) (by simp) ?_
            refine AllReadyH.cons rfl (fun K hK => ?_) (AllReadyH.cons rfl (fun K hK => ?_) AllReadyH.nil)
            · skip
              go_simp
              refine hK.out _ _ c0 (fun _ => ?_)
              clear hK K
              refine wpAnyH_ready (rs := [6]) (by kernel_rfl) (by simp) ?_
              refine AllReadyH.cons rfl (fun K hK => ?_) AllReadyH.nil
              go_simp
              have hbW := bBox wd (.cells #[.slice (some ⟨Rr, 0, none⟩) 2 2] 23)
              replace c3 : (wd.alloc (.cells #[.slice (some ⟨Rr, 0, none⟩) 2 2] 23)).cell? ⟨a.M, 3, none⟩ = some (.slice An nx.length cn) := (HSd.out.keep hbW).m.2.1
              replace c0 : (wd.alloc (.cells #[.slice (some ⟨Rr, 0, none⟩) 2 2] 23)).cell? ⟨a.bP, 0, none⟩ = some (.pointer (some ⟨a.M, 0, none⟩)) := (HSd.out.keep hbW).p
              refine hK.out _ _ c0 (fun _ => ?_)
              clear hK K hbW
              refine wpAnyH_ready (rs := [7]) (by kernel_rfl) (by simp) ?_
              refine AllReadyH.cons rfl (fun K hK => ?_) AllReadyH.nil
              refine stepR rfl _ _ rfl rfl HO.out HV.out rfl rfl hnx1 hB2 ?_
              intro nv' w7 hO7 hg7 hl7
              obtain ⟨d0, d3, df, dI⟩ := HG.out w7 hg7.out
              have HI8 := Lib.hid (fun u => dI _ _ _ u HI0.out)
              have HS8 := Lib.hid (HN'.out w7 nv' hg7.out hO7.out hl7.out)
              obtain ⟨A7', c7', e7, -, -⟩ := hO7.out.form
              rw [List.length_append, List.length_singleton] at e7
              subst e7
              clear dI hO7 hg7 hl7 HN' HG HI0
              refine hK.out _ _ d0 (fun hHeld => ?_)
              clear hK K
              refine wpAnyH_take (i := 8) (v := ?_) rfl (by kernel_rfl) (by kernel_rfl) (by kernel_rfl) (fun _ _ _ h => h) (Or.inl ⟨by rfl, ?_⟩) (by assumption) ?_
              rotate_left 1
              · intro w hSw
                (try dsimp only at hSw)
                go_simp
                (try with_reducible rfl)
              refine wpAnyH_take (i := 9) (v := ?_) rfl (by kernel_rfl) (by kernel_rfl) (by kernel_rfl) (fun _ _ _ h => h) (Or.inl ⟨by rfl, ?_⟩) (by assumption) ?_
              rotate_left 1
              · intro w hSw
                (try dsimp only at hSw)
                go_simp
                (try with_reducible rfl)
              clear hHeld
              refine wpAnyH_ready (rs := [10]) (by kernel_rfl) (by simp) ?_
              refine AllReadyH.cons rfl (fun K hK => ?_) AllReadyH.nil
              go_simp
              refine hK.out _ _ HS8.out.p (fun _ => ?_)
              clear hK K
              refine wpAnyH_done (by kernel_rfl) ?_ _
              clear d0 d3 df c0 c3
              go_wp2_with fail
              go_roundw
              case rel => exact ⟨m + 1, wd.heap.size, _, rv, by omega, by go_num, by rw [HNext.out]; exact HS8, Lib.hid (HI8.out _)⟩
              case measure => simp [intOf]; omega
            · skip
              go_simp
              have hbW := bBox wd (.cells #[.slice (some ⟨Rr, 0, none⟩) 2 2] 23)
              replace c3 : (wd.alloc (.cells #[.slice (some ⟨Rr, 0, none⟩) 2 2] 23)).cell? ⟨a.M, 3, none⟩ = some (.slice An nx.length cn) := (HSd.out.keep hbW).m.2.1
              replace c0 : (wd.alloc (.cells #[.slice (some ⟨Rr, 0, none⟩) 2 2] 23)).cell? ⟨a.bP, 0, none⟩ = some (.pointer (some ⟨a.M, 0, none⟩)) := (HSd.out.keep hbW).p
              refine hK.out _ _ c0 (fun _ => ?_)
              clear hK K hbW
              refine wpAnyH_ready (rs := [4]) (by kernel_rfl) (by simp) ?_
              refine AllReadyH.cons rfl (fun K hK => ?_) AllReadyH.nil
              go_simp
              refine hK.out _ _ c0 (fun _ => ?_)
              clear hK K
              refine wpAnyH_ready (rs := [7]) (by kernel_rfl) (by simp) ?_
              refine AllReadyH.cons rfl (fun K hK => ?_) AllReadyH.nil
              refine stepR rfl _ _ rfl rfl HO.out HV.out rfl rfl hnx1 hB2 ?_
              intro nv' w7 hO7 hg7 hl7
              obtain ⟨d0, d3, df, dI⟩ := HG.out w7 hg7.out
              have HI8 := Lib.hid (fun u => dI _ _ _ u HI0.out)
              have HS8 := Lib.hid (HN'.out w7 nv' hg7.out hO7.out hl7.out)
              obtain ⟨A7', c7', e7, -, -⟩ := hO7.out.form
              rw [List.length_append, List.length_singleton] at e7
              subst e7
              clear dI hO7 hg7 hl7 HN' HG HI0
              refine hK.out _ _ d0 (fun hHeld => ?_)
              clear hK K
              refine wpAnyH_take (i := 8) (v := ?_) rfl (by kernel_rfl) (by kernel_rfl) (by kernel_rfl) (fun _ _ _ h => h) (Or.inl ⟨by rfl, ?_⟩) (by assumption) ?_
              rotate_left 1
              · intro w hSw
                (try dsimp only at hSw)
                go_simp
                (try with_reducible rfl)
              refine wpAnyH_take (i := 9) (v := ?_) rfl (by kernel_rfl) (by kernel_rfl) (by kernel_rfl) (fun _ _ _ h => h) (Or.inl ⟨by rfl, ?_⟩) (by assumption) ?_
              rotate_left 1
              · intro w hSw
                (try dsimp only at hSw)
                go_simp
                (try with_reducible rfl)
              clear hHeld
              refine wpAnyH_ready (rs := [10]) (by kernel_rfl) (by simp) ?_
              refine AllReadyH.cons rfl (fun K hK => ?_) AllReadyH.nil
              go_simp
              refine hK.out _ _ HS8.out.p (fun _ => ?_)
              clear hK K
              refine wpAnyH_done (by kernel_rfl) ?_ _
              clear d0 d3 df c0 c3
              go_wp2_with fail
              go_roundw
              case rel => exact ⟨m + 1, wd.heap.size, _, rv, by omega, by go_num, by rw [HNext.out]; exact HS8, Lib.hid (HI8.out _)⟩
              case measure => simp [intOf]; omega
      · obtain rfl : m = 3 := by omega
        have hmi : ¬ (3 : Int) < (machRun a.k 3).1.length := by omega
        go_wp2_with fail
        go_end0
        obtain ⟨f, sv, hv, h1, -, h3, -⟩ := HS.out
        obtain ⟨q6, q8, q9, q10, q11, q5⟩ := HQ.out
        subst q9 q10 q11
        refine ⟨R0, nv, hv, rv, rfl, Lib.hid ?_, Lib.hid h1.nrow, Lib.hid h1.hrow, HI, Lib.hid (q6 ▸ h3)⟩
        have := h1.mach
        unfold machCells at this
        rw [q6, q8] at this
        exact this
end Go.Proofs.YtlmdjggpeiddoaaDoor
