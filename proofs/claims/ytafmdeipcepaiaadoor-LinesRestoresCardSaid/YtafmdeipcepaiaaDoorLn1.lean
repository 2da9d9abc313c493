/- lines: blanks, strings.Trim, Trim of the reference, Split of the reference. -/
import Derived.Test.YtafmdeipcepaiaaDoorEnv
import Derived.Shelf.Strings.SlTrimAscii
namespace Go.Proofs.YtafmdeipcepaiaaDoor
open Go.RowKit Go.Sort

def isB (b : UInt8) : Bool := ([32, 9, 13] : List UInt8).contains b
def trimLft (l : List UInt8) : List UInt8 := l.dropWhile isB
def trimRgt (l : List UInt8) : List UInt8 := (l.reverse.dropWhile isB).reverse
def trimL (l : List UInt8) : List UInt8 := trimLft (trimRgt l)
theorem trimLft_le (l : List UInt8) : (trimLft l).length ≤ l.length := (List.dropWhile_suffix _).length_le
theorem trimRgt_le (l : List UInt8) : (trimRgt l).length ≤ l.length := by
  have := (List.dropWhile_suffix isB (l := l.reverse)).length_le
  unfold trimRgt
  rw [List.length_reverse]
  simpa using this
theorem trimL_le (l : List UInt8) : (trimL l).length ≤ l.length := Nat.le_trans (trimLft_le _) (trimRgt_le _)
/-- both ends, whichever comes first -/
theorem trim_comm (l : List UInt8) : trimRgt (trimLft l) = trimL l := by
  unfold trimL trimRgt trimLft
  have key : ∀ l : List UInt8, ((l.dropWhile isB).reverse.dropWhile isB).reverse = ((l.reverse.dropWhile isB).reverse).dropWhile isB := by
    intro l
    induction l with
    | nil => rfl
    | cons b r ih =>
      by_cases hb : isB b = true
      · rw [List.dropWhile_cons, if_pos hb, ih, List.reverse_cons, List.dropWhile_append]
        split
        · rename_i he
          have he' : r.reverse.dropWhile isB = [] := by simpa using he
          rw [he']
          simp [hb]
        · rw [List.reverse_append]
          show _ = ([b] ++ _).dropWhile isB
          rw [List.singleton_append, List.dropWhile_cons, if_pos hb]
      · rw [List.dropWhile_cons, if_neg hb, List.reverse_cons, List.dropWhile_append]
        split
        · rename_i he
          simp [hb]
        · rw [List.reverse_append]
          show _ = ([b] ++ _).dropWhile isB
          rw [List.singleton_append, List.dropWhile_cons, if_neg hb]
          simp
  exact key l

theorem info116 : (Tryd.prog.info? 71).map (fun i => (i.zero, i.size)) = some (some (.agg (Array.replicate 256 (.bool false))), 256) := by kernel_rfl
theorem goTrim (l : List UInt8) (w : World) (hl : l.length ≤ 9223372036854775807) :
    Calls Tryd.prog 23 #[.string ⟨l.toArray⟩, .string ⟨#[32, 9, 13]⟩] w fun e w' => e = .returned (.string ⟨(trimL l).toArray⟩) ∧ Below w.heap.size w w' :=
  (Any.strings_Trim_laid Tryd.lays160 info116 ⟨l.toArray⟩ ⟨#[32, 9, 13]⟩ w hl (by decide) (ascii_of_all (by decide))).mono fun _ _ ⟨h, hb⟩ => ⟨h, hb⟩

theorem rfBlank (b : UInt8) (w : World) : Calls Tryd.prog 50 #[.int .u8 b.toNat] w fun e w' => e = .returned (.bool (isB b)) ∧ w = w' := by
  have hb : b.toNat < 256 := UInt8.toNat_lt b
  by_cases h1 : b = 32
  · subst h1
    go_enter Tryd.func50, Tryd.ntmps50
    go_wp2_with fail
    go_ret
    exact ⟨rfl, rfl⟩
  by_cases h2 : b = 9
  · subst h2
    go_enter Tryd.func50, Tryd.ntmps50
    go_wp2_with fail
    go_ret
    exact ⟨rfl, rfl⟩
  by_cases h3 : b = 13
  · subst h3
    go_enter Tryd.func50, Tryd.ntmps50
    go_wp2_with fail
    go_ret
    exact ⟨rfl, rfl⟩
  have n1 : ((b.toNat : Int) == 32) = false := by
    rw [beq_eq_false_iff_ne]; intro e; exact h1 (UInt8.toNat_inj.1 (by show b.toNat = 32; omega))
  have n2 : ((b.toNat : Int) == 9) = false := by
    rw [beq_eq_false_iff_ne]; intro e; exact h2 (UInt8.toNat_inj.1 (by show b.toNat = 9; omega))
  have n3 : ((b.toNat : Int) == 13) = false := by
    rw [beq_eq_false_iff_ne]; intro e; exact h3 (UInt8.toNat_inj.1 (by show b.toNat = 13; omega))
  have HB := Lib.hid (show isB b = false by simp [isB, h1, h2, h3])
  clear h1 h2 h3
  go_enter Tryd.func50, Tryd.ntmps50
  go_wp2_with fail
  go_ret
  exact ⟨ret_bool HB.out.symm, rfl⟩
end Go.Proofs.YtafmdeipcepaiaaDoor
