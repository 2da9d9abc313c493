/- strings.ContainsAny(f, ";#\n") on any bytes -/
import Derived.Test.YtafmdeipcepaiaaDoorLn14
import Derived.Laws.RangeString
import Derived.Deep.LoopGhost
namespace Go.Proofs.YtafmdeipcepaiaaDoor
open Go.RowKit Go.Sort

/-- a step of a range over a string, whatever its bytes -/
theorem next_any {P : Program} (W : World) (k : Nat) (s : ByteArray) (pos : Nat) (ty : TypeId) (hk : W.heap[k]? = some (.stringIter s pos)) (h : pos < s.size) :
    (Instr.next (.pointer (some ⟨k, 0, none⟩)) true ty).run P W = .ok (.tuple #[.bool true, .int .i64 pos, .int .i32 (Utf8.decode s pos).1]) (W.putObj k (.stringIter s (pos + (Utf8.decode s pos).2))) := by
  simp only [Instr.next, getObj, setObj, Sem.run_bind, Sem.run, hk, Result.andThen, h, if_true]
  simp [goInt, World.putObj]
theorem next_stop {P : Program} (W : World) (k : Nat) (s : ByteArray) (pos : Nat) (ty : TypeId) (hk : W.heap[k]? = some (.stringIter s pos)) (h : ¬ pos < s.size) :
    (Instr.next (.pointer (some ⟨k, 0, none⟩)) true ty).run P W = .ok (.tuple #[.bool false]) W := by
  simp [Instr.next, getObj, Sem.run, hk, h]

theorem get_bt (l : List UInt8) (i : Nat) (hi : i < l.length) : (ByteArray.mk l.toArray).get! i = l[i] := by
  simp [ByteArray.get!, hi]
/-- what a step reads -/
structure Rune (l : List UInt8) (pos r n : Nat) : Prop where
  pos1 : 1 ≤ n
  le : pos + n ≤ l.length
  ascii : ∀ h : pos < l.length, l[pos].toNat < 128 → r = l[pos].toNat ∧ n = 1
  big : ∀ h : pos < l.length, 128 ≤ l[pos].toNat → 128 ≤ r ∧ r ≤ 1114111 ∧ ∀ j (hj : j < l.length), pos ≤ j → j < pos + n → 128 ≤ l[j].toNat
theorem rune_big {l : List UInt8} {pos r n : Nat} (hp : pos < l.length) (hb : 128 ≤ l[pos].toNat) (h1 : 1 ≤ n) (hle : pos + n ≤ l.length) (hr : 128 ≤ r) (hr2 : r ≤ 1114111) (hj : ∀ j (hj : j < l.length), pos ≤ j → j < pos + n → 128 ≤ l[j].toNat) : Rune l pos r n :=
  ⟨h1, hle, fun _ h => absurd hb (by omega), fun _ _ => ⟨hr, hr2, hj⟩⟩
theorem rune_err {l : List UInt8} {pos : Nat} (hp : pos < l.length) (hb : 128 ≤ l[pos].toNat) : Rune l pos Utf8.runeError 1 :=
  rune_big hp hb (by omega) (by omega) (by decide) (by decide) (fun j hj h1 h2 => by obtain rfl : j = pos := by omega
                                                                                     exact hb)
theorem cont_ge {l : List UInt8} {j : Nat} (h : (decide (j < (ByteArray.mk l.toArray).size) && ((ByteArray.mk l.toArray).get! j).toNat / 64 == 2) = true) : ∃ hj : j < l.length, 128 ≤ l[j].toNat := by
  simp only [Bool.and_eq_true, decide_eq_true_eq, beq_iff_eq] at h
  have hj : j < l.length := by simpa [ByteArray.size] using h.1
  refine ⟨hj, ?_⟩
  rw [get_bt l j hj] at h
  omega
theorem valid_le {c : Nat} (h : Utf8.valid c = true) : c ≤ 1114111 := by
  unfold Utf8.valid at h
  simp only [Bool.or_eq_true, Bool.and_eq_true, decide_eq_true_eq] at h
  omega
theorem rune_of (l : List UInt8) (pos : Nat) (hp : pos < l.length) : Rune l pos (Utf8.decode ⟨l.toArray⟩ pos).1 (Utf8.decode ⟨l.toArray⟩ pos).2 := by
  have g0 := get_bt l pos hp
  have hlt := UInt8.toNat_lt l[pos]
  by_cases h0 : l[pos].toNat < 128
  · have : Utf8.decode ⟨l.toArray⟩ pos = (l[pos].toNat, 1) := by
      unfold Utf8.decode
      simp only [Nat.add_zero, g0, h0, if_true]
    rw [this]
    exact ⟨by simp, by simp only; omega, fun _ _ => ⟨rfl, rfl⟩, fun _ h => absurd h0 (by omega)⟩
  · have hb : 128 ≤ l[pos].toNat := by omega
    unfold Utf8.decode
    simp only [Nat.add_zero, g0]
    rw [if_neg h0]
    split
    · rename_i h2
      simp only [Bool.and_eq_true] at h2
      obtain ⟨j1, c1⟩ := cont_ge (by simp only [Bool.and_eq_true]; exact h2.2)
      split
      · rename_i hc
        have := UInt8.toNat_lt ((ByteArray.mk l.toArray).get! (pos + 1))
        exact rune_big hp hb (by simp) (by simp only; omega) hc (by simp only; omega) (fun j hj a b => by
          simp only at b
          obtain rfl | rfl : j = pos ∨ j = pos + 1 := by omega
          · exact hb
          · exact c1)
      · exact rune_err hp hb
    · split
      · rename_i _ h2
        simp only [Bool.and_eq_true] at h2
        obtain ⟨j1, c1⟩ := cont_ge (by simp only [Bool.and_eq_true]; exact h2.1.2)
        obtain ⟨j2, c2⟩ := cont_ge (by simp only [Bool.and_eq_true]; exact h2.2)
        split
        · rename_i hc
          simp only [Bool.and_eq_true, decide_eq_true_eq] at hc
          have hv := valid_le hc.2
          exact rune_big hp hb (by simp) (by simp only; omega) (by have := hc.1; simp only; omega) hv (fun j hj a b => by
            simp only at b
            obtain rfl | rfl | rfl : j = pos ∨ j = pos + 1 ∨ j = pos + 2 := by omega
            · exact hb
            · exact c1
            · exact c2)
        · exact rune_err hp hb
      · split
        · rename_i _ _ h2
          simp only [Bool.and_eq_true] at h2
          obtain ⟨j1, c1⟩ := cont_ge (by simp only [Bool.and_eq_true]; exact h2.1.1.2)
          obtain ⟨j2, c2⟩ := cont_ge (by simp only [Bool.and_eq_true]; exact h2.1.2)
          obtain ⟨j3, c3⟩ := cont_ge (by simp only [Bool.and_eq_true]; exact h2.2)
          split
          · rename_i hc
            simp only [Bool.and_eq_true, decide_eq_true_eq] at hc
            have hv := valid_le hc.2
            exact rune_big hp hb (by simp) (by simp only; omega) (by have := hc.1; simp only; omega) hv (fun j hj a b => by
              simp only at b
              obtain rfl | rfl | rfl | rfl : j = pos ∨ j = pos + 1 ∨ j = pos + 2 ∨ j = pos + 3 := by omega
              · exact hb
              · exact c1
              · exact c2
              · exact c3)
          · exact rune_err hp hb
        · exact rune_err hp hb

/-- string(r) of a rune that is no ASCII: its last byte -/
theorem encode_big (r : Int) (h : 128 ≤ r) : ∃ (m : Nat) (bs : List UInt8) (z : UInt8), (m = 1 ∨ m = 2 ∨ m = 3) ∧ Utf8.encode r = ⟨(bs ++ [z]).toArray⟩ ∧ bs.length = m ∧ 128 ≤ z.toNat := by
  unfold Utf8.encode
  dsimp only
  have hc : 128 ≤ (if Utf8.valid r = true then r.toNat else Utf8.runeError) := by
    split
    · omega
    · decide
  generalize (if Utf8.valid r = true then r.toNat else Utf8.runeError) = c at hc
  have hz : ∀ n, 128 ≤ (UInt8.ofNat (0x80 + n % 64)).toNat := fun n => by simp; omega
  rw [if_neg (by omega)]
  split
  · exact ⟨1, [UInt8.ofNat (0xC0 + c / 64)], _, by omega, rfl, rfl, hz c⟩
  · split
    · exact ⟨2, [UInt8.ofNat (0xE0 + c / 4096), UInt8.ofNat (0x80 + c / 64 % 64)], _, by omega, rfl, rfl, hz c⟩
    · exact ⟨3, [UInt8.ofNat (0xF0 + c / 262144), UInt8.ofNat (0x80 + c / 4096 % 64), UInt8.ofNat (0x80 + c / 64 % 64)], _, by omega, rfl, rfl, hz c⟩
end Go.Proofs.YtafmdeipcepaiaaDoor
