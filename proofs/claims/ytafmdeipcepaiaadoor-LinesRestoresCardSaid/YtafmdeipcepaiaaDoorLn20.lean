/- few; one and Text of the reference -/
import Derived.Test.YtafmdeipcepaiaaDoorLn19
namespace Go.Proofs.YtafmdeipcepaiaaDoor
open Go.RowKit Go.Sort

def shortB (f : List UInt8) : Bool := decide (f.length ≤ 100)
def fewD (d : LineD) : Bool := decide (d.fields.length ≤ 10) && decide (d.com.length ≤ 100) && d.fields.all shortB
def fewB (ls : List LineD) : Bool := decide (ls.length ≤ 40) && ls.all fewD
theorem all_take {α : Type} (p : α → Bool) {xs : List α} {k : Nat} {x : α} (h : xs[k]? = some x) (hp : p x = false) : xs.all p = false := by
  rw [← Bool.not_eq_true]
  intro h'
  rw [List.all_eq_true.1 h' x (List.mem_of_getElem? h)] at hp
  cases hp
theorem all_step {α : Type} (p : α → Bool) {xs : List α} {k : Nat} {x : α} (h : xs[k]? = some x) (hk : (xs.take k).all p = true) (hp : p x = true) : (xs.take (k + 1)).all p = true := by
  rw [List.take_add_one, h, List.all_append, hk]
  simp [hp]
theorem lineAt_get {ls : List LineD} {k : Nat} (h : k < ls.length) : ls[k]? = some (lineAt ls k) := by simp [lineAt, h]
theorem piece_get {ps : List (List UInt8)} {k : Nat} (h : k < ps.length) : ps[k]? = some (piece ps k) := by simp [piece, h]

set_option maxHeartbeats 8000000 in
set_option maxRecDepth 100000 in
theorem lnFew (ls : List LineD) (A : Option Addr) (cp : Nat) (w : World) (hA : LinesAt w A ls) (hl : ls.length ≤ 9223372036854775807) (hw : ∀ d ∈ ls, d.fields.length ≤ 9223372036854775807 ∧ (∀ f ∈ d.fields, f.length ≤ 9223372036854775807) ∧ d.com.length ≤ 9223372036854775807) :
    Calls Tryd.prog 17 #[.slice A ls.length cp] w fun e w' => e = .returned (.bool (fewB ls)) ∧ w = w' := by
  have HA := Lib.hid hA
  have Hw := Lib.hid hw
  clear hA hw
  go_enter Tryd.func17, Tryd.ntmps17
  by_cases h40 : ls.length ≤ 40
  · have d0 : decide ((40 : Int) < ls.length) = false := decide_eq_false (by omega)
    go_wp2_with fail
    go_loop [3] (fun i => ∃ k : Nat, k ≤ ls.length ∧ i = .int .i64 k ∧ Hid ((ls.take k).all fewD = true)) (fun i => ls.length - (intOf i).toNat)
    case atStart => exact ⟨0, Nat.zero_le _, rfl, Lib.hid rfl⟩
    case round =>
      obtain ⟨k, hk, rfl, HK⟩ := hrel
      by_cases hlt : k < ls.length
      · obtain ⟨b1, o1, rfl, h1, p0, p1, p2, ⟨F1, d1, p3, s1⟩, p4⟩ := HA.out.at_ hlt
        have hbad : fewD (lineAt ls k) = false → Hid (fewB ls = false) := fun h => Lib.hid (by unfold fewB; rw [all_take fewD (lineAt_get hlt) h]; simp)
        have hgood : fewD (lineAt ls k) = true → Hid ((ls.take (k + 1)).all fewD = true) := fun h => Lib.hid (all_step fewD (lineAt_get hlt) HK.out h)
        have hwd := Hw.out _ (by simp [lineAt, hlt] : lineAt ls k ∈ ls)
        generalize lineAt ls k = d at p0 p1 p2 p3 p4 s1 hbad hgood hwd
        obtain ⟨num, lo, hi, fs, com⟩ := d
        dsimp only at p0 p1 p2 p3 p4 s1 hwd
        obtain ⟨hw1, hw2, hw3⟩ := hwd
        have hki : (k : Int) < ls.length := by omega
        have HS := Lib.hid s1
        have HB := Lib.hid hbad
        have HG := Lib.hid hgood
        have HW2 := Lib.hid hw2
        clear s1 hbad hgood hw2 p0 p1 p2
        by_cases h10 : fs.length ≤ 10
        · have e1 : decide ((10 : Int) < fs.length) = false := decide_eq_false (by omega)
          by_cases h100 : com.length ≤ 100
          · have e2 : decide ((100 : Int) < com.length) = false := decide_eq_false (by omega)
            go_wp2_with fail
            go_loop [4] (fun i => ∃ m : Nat, m ≤ fs.length ∧ i = .int .i64 m ∧ Hid ((fs.take m).all shortB = true)) (fun i => fs.length - (intOf i).toNat)
            case atStart => exact ⟨0, Nat.zero_le _, rfl, Lib.hid rfl⟩
            case round =>
              obtain ⟨m, hm, rfl, HM⟩ := hrel
              by_cases hmt : m < fs.length
              · obtain ⟨b2, o2, rfl, h2, q2⟩ := HS.out.at_ hmt
                have hpl := HW2.out _ (piece_mem hmt)
                have hb2 : shortB (piece fs m) = false → Hid (fewB ls = false) := fun h => HB.out (by unfold fewD; rw [all_take shortB (piece_get hmt) h]; simp)
                have hg2 : shortB (piece fs m) = true → Hid ((fs.take (m + 1)).all shortB = true) := fun h => Lib.hid (all_step shortB (piece_get hmt) HM.out h)
                generalize piece fs m = f at q2 hpl hb2 hg2
                have hmi : (m : Int) < fs.length := by omega
                by_cases hf : f.length ≤ 100
                · have e3 : decide ((100 : Int) < f.length) = false := decide_eq_false (by omega)
                  have hg3 := hg2 (decide_eq_true hf)
                  clear hb2 hg2
                  go_wp2_with fail
                  go_round
                  case rel => exact ⟨m + 1, by omega, by go_num, hg3⟩
                  case measure => simp [intOf]; omega
                · have e3 : decide ((100 : Int) < f.length) = true := decide_eq_true (by omega)
                  have hb3 := hb2 (decide_eq_false hf)
                  clear hb2 hg2
                  go_wp2_with fail
                  go_ret
                  exact ⟨by rw [hb3.out]; rfl, rfl⟩
              · obtain rfl : m = fs.length := by omega
                have hmi : ¬ (fs.length : Int) < fs.length := by omega
                have hg := HG.out (by unfold fewD; dsimp only; rw [decide_eq_true h10, decide_eq_true h100]; have := HM.out; rw [List.take_length] at this; rw [this]; rfl)
                go_wp2_with fail
                go_round
                case rel => exact ⟨k + 1, by omega, by go_num, hg⟩
                case measure => simp [intOf]; omega
          · have e2 : decide ((100 : Int) < com.length) = true := decide_eq_true (by omega)
            have hb := HB.out (by unfold fewD; dsimp only; rw [decide_eq_false h100]; simp)
            go_wp2_with fail
            go_ret
            exact ⟨by rw [hb.out]; rfl, rfl⟩
        · have e1 : decide ((10 : Int) < fs.length) = true := decide_eq_true (by omega)
          have hb := HB.out (by unfold fewD; dsimp only; rw [decide_eq_false h10]; simp)
          go_wp2_with fail
          go_ret
          exact ⟨by rw [hb.out]; rfl, rfl⟩
      · obtain rfl : k = ls.length := by omega
        have hki : ¬ (ls.length : Int) < ls.length := by omega
        have hr : fewB ls = true := by
          unfold fewB
          have := HK.out
          rw [List.take_length] at this
          rw [this, decide_eq_true h40]
          rfl
        have Hr := Lib.hid hr
        clear hr
        go_wp2_with fail
        go_ret
        exact ⟨by rw [Hr.out]; rfl, rfl⟩
  · have d0 : decide ((40 : Int) < ls.length) = true := decide_eq_true (by omega)
    have hr : fewB ls = false := by unfold fewB; rw [decide_eq_false h40]; rfl
    have Hr := Lib.hid hr
    clear hr
    go_wp2_with fail
    go_ret
    exact ⟨by rw [Hr.out]; rfl, rfl⟩
theorem fewD_of {ls : List LineD} (h : fewB ls = true) : ls.length ≤ 40 ∧ ∀ d ∈ ls, d.fields.length ≤ 10 ∧ d.com.length ≤ 100 ∧ ∀ f ∈ d.fields, f.length ≤ 100 := by
  unfold fewB at h
  simp only [Bool.and_eq_true, decide_eq_true_eq, List.all_eq_true] at h
  refine ⟨h.1, fun d hd => ?_⟩
  have h2 := h.2 d hd
  unfold fewD at h2
  simp only [Bool.and_eq_true, decide_eq_true_eq, List.all_eq_true, shortB] at h2
  exact ⟨h2.1.1, h2.1.2, h2.2⟩

/-- a line as text -/
def fieldsT (fs : List (List UInt8)) : List UInt8 := fs.flatMap fun f => [59, 32] ++ f
def headT (d : LineD) : List UInt8 := hexL d.lo ++ (if d.hi = d.lo then [] else [46, 46] ++ hexL d.hi)
def comT (c : List UInt8) : List UInt8 := if c = [] then [] else [32, 35, 32] ++ c
def oneL (d : LineD) : List UInt8 := headT d ++ fieldsT d.fields ++ comT d.com ++ [10]
theorem fieldsT_le {fs : List (List UInt8)} (h : ∀ f ∈ fs, f.length ≤ 100) : (fieldsT fs).length ≤ 102 * fs.length := by
  induction fs with
  | nil => simp [fieldsT]
  | cons f r ih =>
    have h1 := h f (by simp)
    have h2 := ih (fun g hg => h g (by simp [hg]))
    unfold fieldsT at h2 ⊢
    rw [List.flatMap_cons, List.length_append]
    simp only [List.length_append, List.length_cons, List.length_nil] at h2 ⊢
    omega
theorem headT_le (d : LineD) : (headT d).length ≤ 14 := by
  have h1 := hexL_length_le d.lo
  have h2 := hexL_length_le d.hi
  unfold headT
  split <;> simp <;> omega
theorem comT_le (c : List UInt8) : (comT c).length ≤ c.length + 3 := by unfold comT; split <;> simp
theorem fieldsT_snoc (fs : List (List UInt8)) {m : Nat} (h : m < fs.length) : fieldsT (fs.take (m + 1)) = fieldsT (fs.take m) ++ ([59, 32] ++ piece fs m) := by
  unfold fieldsT
  rw [List.take_add_one, piece_get h, List.flatMap_append]
  simp
structure FewL (d : LineD) : Prop where
  cnt : d.fields.length ≤ 10
  com : d.com.length ≤ 100
  len : ∀ f ∈ d.fields, f.length ≤ 100
theorem oneL_le {d : LineD} (h : FewL d) : (oneL d).length ≤ 1200 := by
  have h1 := headT_le d
  have h2 := fieldsT_le h.len
  have h3 := comT_le d.com
  have h4 := h.cnt
  have h5 := h.com
  unfold oneL
  simp only [List.length_append, List.length_singleton]
  omega
end Go.Proofs.YtafmdeipcepaiaaDoor
