/- The first error of a collation, step by step. Plain. -/
import Derived.Test.YthogkokifiibnaaDoorElP5
import Derived.Test.YthogkokifiibnaaDoorEl13
namespace Go.Proofs.YthogkokifiibnaaDoor
open Go.RowKit Go.Sort

theorem take_bad {α : Type} {p : α → Bool} {l : List α} {k : Nat} {d : α} (h : l[k]? = some d) (hd : p d = false) : l.all p = false := by
  rw [← Bool.not_eq_true]
  intro h'
  have := List.all_eq_true.1 h' d (List.mem_of_getElem? h)
  rw [hd] at this
  cases this
theorem take_good {α : Type} {p : α → Bool} {l : List α} {k : Nat} {d : α} (h : l[k]? = some d) (hk : (l.take k).all p = true) (hd : p d = true) : (l.take (k + 1)).all p = true := by
  rw [List.take_add_one, h, List.all_append, hk]
  simp [hd]
def okG (g : GroupD) : Bool := !negG g
def okM (g : GroupD) : Bool := nameB g.name
def okV (e : EntryD) : Bool := allValid e.codes
def okE (e : EntryD) : Bool := chksE e.els == 0
theorem any_not {α : Type} {p q : α → Bool} {l : List α} (h : ∀ x, q x = !p x) : l.any q = !l.all p := by
  induction l with
  | nil => rfl
  | cons a r ih => simp [h, ih, List.any_cons, List.all_cons, Bool.not_and]
theorem chkF_eq (es : List EntryD) (gs : List GroupD) (b s t : Int) : chkF ⟨es, gs, b, s, t⟩ = if b < 0 ∨ s < 0 ∨ t < 0 then 1 else if gs.all okG = false then 1 else if gs.all okM = false then 6 else if es.all okV = false then 1 else match es.find? (fun e => chksE e.els != 0) with | some e => chksE e.els | none => 0 := by
  unfold chkF
  dsimp only
  rw [any_not (p := okG) (q := negG) (fun x => by simp [okG]), any_not (p := okM) (q := fun g => !nameB g.name) (fun _ => rfl), any_not (p := okV) (q := fun e => !allValid e.codes) (fun _ => rfl)]
  simp only [Bool.not_eq_true']
  rfl
theorem chkF_neg {es : List EntryD} {gs : List GroupD} {b s t : Int} (h : b < 0 ∨ s < 0 ∨ t < 0) : chkF ⟨es, gs, b, s, t⟩ = 1 := by rw [chkF_eq, if_pos h]
theorem chkF_g {es : List EntryD} {gs : List GroupD} {b s t : Int} (h : gs.all okG = false) : chkF ⟨es, gs, b, s, t⟩ = 1 := by rw [chkF_eq, if_pos h]; split <;> rfl
theorem chkF_m {es : List EntryD} {gs : List GroupD} {b s t : Int} (h0 : ¬ (b < 0 ∨ s < 0 ∨ t < 0)) (h1 : gs.all okG = true) (h : gs.all okM = false) : chkF ⟨es, gs, b, s, t⟩ = 6 := by rw [chkF_eq, if_neg h0, if_neg (by simp [h1]), if_pos h]
theorem chkF_v {es : List EntryD} {gs : List GroupD} {b s t : Int} (h0 : ¬ (b < 0 ∨ s < 0 ∨ t < 0)) (h1 : gs.all okG = true) (h2 : gs.all okM = true) (h : es.all okV = false) : chkF ⟨es, gs, b, s, t⟩ = 1 := by rw [chkF_eq, if_neg h0, if_neg (by simp [h1]), if_neg (by simp [h2]), if_pos h]
theorem chkF_e {es : List EntryD} {gs : List GroupD} {b s t : Int} (h0 : ¬ (b < 0 ∨ s < 0 ∨ t < 0)) (h1 : gs.all okG = true) (h2 : gs.all okM = true) (h3 : es.all okV = true) {k : Nat} {d : EntryD} (h : es[k]? = some d) (hk : (es.take k).all okE = true) (hd : ¬ chksE d.els = 0) : chkF ⟨es, gs, b, s, t⟩ = chksE d.els := by
  rw [chkF_eq, if_neg h0, if_neg (by simp [h1]), if_neg (by simp [h2]), if_neg (by simp [h3])]
  have hlt : k < es.length := (List.getElem?_eq_some_iff.1 h).1
  have e : es = es.take k ++ d :: es.drop (k + 1) := by
    have := List.take_append_drop k es
    rw [List.drop_eq_getElem_cons hlt, (List.getElem?_eq_some_iff.1 h).2] at this
    exact this.symm
  have hf : es.find? (fun e => chksE e.els != 0) = some d := by
    rw [e, List.find?_append, List.find?_eq_none.2 (fun x hx => by have := List.all_eq_true.1 hk x hx; unfold okE at this; simp at this; simp [this]), List.find?_cons, show (chksE d.els != 0) = true by simp [hd]]
    rfl
  rw [hf]
theorem chkF_o {es : List EntryD} {gs : List GroupD} {b s t : Int} (h0 : ¬ (b < 0 ∨ s < 0 ∨ t < 0)) (h1 : gs.all okG = true) (h2 : gs.all okM = true) (h3 : es.all okV = true) (h4 : es.all okE = true) : chkF ⟨es, gs, b, s, t⟩ = 0 := by
  rw [chkF_eq, if_neg h0, if_neg (by simp [h1]), if_neg (by simp [h2]), if_neg (by simp [h3]), List.find?_eq_none.2 (fun x hx => by have := List.all_eq_true.1 h4 x hx; unfold okE at this; simp at this; simp [this])]
end Go.Proofs.YthogkokifiibnaaDoor
