/- CharsetBack, the plain law: with Fail, Decode undoes Encode and Encode undoes Decode. -/
import Derived.Test.YthpiopjpipdgnaaDoorCsL4
namespace Go.Proofs.YthpiopjpipdgnaaDoor
open Go.RowKit Go.Sort

theorem byteL_at (x : Int) : ∀ (l : List Int) (i : Nat), 0 ≤ byteL x l i → ∃ k, k < l.length ∧ byteL x l i = ((i + k : Nat) : Int) ∧ nth l k = x ∧ 0 ≤ x
  | [], _, h => by simp [byteL] at h
  | z :: r, i, h => by
    unfold byteL at h ⊢
    by_cases hz : 0 ≤ x ∧ z = x
    · rw [if_pos hz]
      exact ⟨0, by simp, by simp, by simp [nth, hz.2], hz.1⟩
    · rw [if_neg hz] at h ⊢
      obtain ⟨k, h1, h2, h3, h4⟩ := byteL_at x r (i + 1) h
      exact ⟨k + 1, by simp; omega, by rw [h2]; omega, by simpa [nth] using h3, h4⟩
theorem byteL_self : ∀ (l : List Int) (i k : Nat), Dist l → k < l.length → 0 ≤ nth l k → byteL (nth l k) l i = ((i + k : Nat) : Int)
  | z :: r, i, 0, _, _, h0 => by
    have e : nth (z :: r) 0 = z := rfl
    rw [e] at h0 ⊢
    rw [byteL, if_pos ⟨h0, rfl⟩]; rfl
  | z :: r, i, k + 1, hd, hk, h0 => by
    have e : nth (z :: r) (k + 1) = nth r k := rfl
    have hk' : k < r.length := by simpa using hk
    rw [e] at h0 ⊢
    have hne : ¬ z = nth r k := fun h => hd.1 (by omega) (by rw [h]; exact nth_mem hk')
    rw [byteL, if_neg (fun h => hne h.2), byteL_self r (i + 1) k hd.2 hk' h0]
    omega
theorem encAll (f : Int → Option Int) : ∀ (t : List Int) (i : Nat) (acc : List UInt8), (∀ x ∈ t, (f x).isSome = true) → encFrom f 1 t i acc = strFault (acc ++ t.flatMap (putL f)) 0 0
  | [], _, acc, _ => by simp [encFrom]
  | x :: r, i, acc, h => by
    rw [encFrom, if_pos (h x (by simp)), encAll f r (i + 1) _ (fun y hy => h y (by simp [hy]))]
    simp
theorem encStop (f : Int → Option Int) : ∀ (t : List Int) (i : Nat) (acc : List UInt8), (∃ x ∈ t, (f x).isSome = false) → ∃ n, encFrom f 1 t i acc = strFault [] 10 n
  | [], _, _, h => by obtain ⟨x, hx, _⟩ := h; cases hx
  | x :: r, i, acc, h => by
    by_cases hx : (f x).isSome = true
    · rw [encFrom, if_pos hx]
      refine encStop f r (i + 1) _ ?_
      obtain ⟨y, hy, hf⟩ := h
      rcases List.mem_cons.1 hy with rfl | hy
      · rw [hx] at hf; cases hf
      · exact ⟨y, hy, hf⟩
    · rw [encFrom, if_neg hx, if_pos rfl]
      exact ⟨_, rfl⟩
theorem decAll (zs : List Int) : ∀ (l : List UInt8) (i : Nat) (acc : List Int), (∀ b ∈ l, nth zs b.toNat ≠ -1) → decFrom zs 1 l i acc = (acc ++ l.map (fun b => nth zs b.toNat), 0, 0)
  | [], _, acc, _ => by simp [decFrom]
  | b :: r, i, acc, h => by
    rw [decFrom, if_pos (h b (by simp)), decAll zs r (i + 1) _ (fun y hy => h y (by simp [hy]))]
    simp
theorem decStop (zs : List Int) : ∀ (l : List UInt8) (i : Nat) (acc : List Int), (∃ b ∈ l, nth zs b.toNat = -1) → ∃ n, decFrom zs 1 l i acc = ([], 9, n)
  | [], _, _, h => by obtain ⟨x, hx, _⟩ := h; cases hx
  | b :: r, i, acc, h => by
    by_cases hx : nth zs b.toNat = -1
    · rw [decFrom, if_neg (fun h' => h' hx), if_pos rfl]
      exact ⟨_, rfl⟩
    · rw [decFrom, if_pos hx]
      refine decStop zs r (i + 1) _ ?_
      obtain ⟨y, hy, hf⟩ := h
      rcases List.mem_cons.1 hy with rfl | hy
      · exact absurd hf hx
      · exact ⟨y, hy, hf⟩

theorem put_back {zs : List Int} (hn : zs.length = 256) {x : Int} (h : (byteF zs x).isSome = true) : ∃ b : UInt8, putL (byteF zs) x = [b] ∧ nth zs b.toNat = x ∧ x ≠ -1 := by
  unfold byteF at h
  by_cases hb : byteL x zs 0 < 0
  · rw [if_pos hb] at h; cases h
  · obtain ⟨k, h1, h2, h3, h4⟩ := byteL_at x zs 0 (by omega)
    rw [Nat.zero_add] at h2
    have e : ((ub (byteL x zs 0)).toNat : Int) = byteL x zs 0 := ub_toNat (by omega) (by omega)
    refine ⟨ub (byteL x zs 0), putL_some (byteF_some hb), ?_, by omega⟩
    rw [show (ub (byteL x zs 0)).toNat = k by omega]
    exact h3
theorem back_put {zs : List Int} (hn : zs.length = 256) (hd : Dist zs) {b : UInt8} (h0 : 0 ≤ nth zs b.toNat) : (byteF zs (nth zs b.toNat)).isSome = true ∧ putL (byteF zs) (nth zs b.toNat) = [b] := by
  have hb : b.toNat < 256 := UInt8.toNat_lt b
  have h1 := byteL_self zs 0 b.toNat hd (by omega) h0
  rw [Nat.zero_add] at h1
  have h2 : byteF zs (nth zs b.toNat) = some (b.toNat : Int) := by rw [byteF_some (by omega), h1]
  refine ⟨by rw [h2]; rfl, ?_⟩
  rw [putL_some h2]
  simp [ub]
theorem puts_back {zs : List Int} (hn : zs.length = 256) : ∀ t : List Int, (∀ x ∈ t, (byteF zs x).isSome = true) → (t.flatMap (putL (byteF zs))).length = t.length ∧ (∀ b ∈ t.flatMap (putL (byteF zs)), nth zs b.toNat ≠ -1) ∧ (t.flatMap (putL (byteF zs))).map (fun b => nth zs b.toNat) = t
  | [], _ => by simp
  | x :: r, h => by
    obtain ⟨b, h1, h2, h3⟩ := put_back hn (h x (by simp))
    obtain ⟨i1, i2, i3⟩ := puts_back hn r (fun y hy => h y (by simp [hy]))
    rw [List.flatMap_cons, h1]
    refine ⟨by simp [i1], ?_, by rw [List.map_append, i3]; simp [h2]⟩
    intro c hc
    rcases List.mem_append.1 hc with hc | hc
    · obtain rfl : c = b := by simpa using hc
      rw [h2]; exact h3
    · exact i2 c hc
theorem back_puts {zs : List Int} (hn : zs.length = 256) (hd : Dist zs) : ∀ s : List UInt8, (∀ b ∈ s, 0 ≤ nth zs b.toNat) → (∀ x ∈ s.map (fun b => nth zs b.toNat), (byteF zs x).isSome = true) ∧ (s.map (fun b => nth zs b.toNat)).flatMap (putL (byteF zs)) = s
  | [], _ => by simp
  | b :: r, h => by
    obtain ⟨h1, h2⟩ := back_put hn hd (h b (by simp))
    obtain ⟨i1, i2⟩ := back_puts hn hd r (fun y hy => h y (by simp [hy]))
    refine ⟨?_, by rw [List.map_cons, List.flatMap_cons, h2, i2]; rfl⟩
    intro x hx
    rcases List.mem_cons.1 hx with rfl | hx
    · exact h1
    · exact i1 x hx

theorem backEnc (zs text : List Int) : ∃ b er n, encV zs text 1 (idxF zs) = strFault b er n ∧ (er = 0 → decR zs b 1 = (text, 0, 0) ∧ b.length = text.length) := by
  by_cases hc : checkC zs = 0
  · have hn := (codes_of_check hc).1
    rw [idxF_eq hc]
    have e : encV zs text 1 (byteF zs) = encFrom (byteF zs) 1 text 0 [] := by simp [encV, hc, polB]
    rw [e]
    by_cases ha : ∀ x ∈ text, (byteF zs x).isSome = true
    · obtain ⟨h1, h2, h3⟩ := puts_back hn text ha
      refine ⟨_, 0, 0, encAll _ _ _ _ ha, fun _ => ?_⟩
      rw [List.nil_append]
      refine ⟨?_, h1⟩
      have e2 : decR zs (text.flatMap (putL (byteF zs))) 1 = decFrom zs 1 (text.flatMap (putL (byteF zs))) 0 [] := by simp [decR, hc, polB]
      rw [e2, decAll zs _ _ _ h2, h3, List.nil_append]
    · have hx : ∃ x ∈ text, (byteF zs x).isSome = false := by
        refine Decidable.byContradiction fun hno => ha fun x hx => ?_
        cases hb : (byteF zs x).isSome
        · exact absurd ⟨x, hx, hb⟩ hno
        · rfl
      obtain ⟨n, hn⟩ := encStop (byteF zs) text 0 [] hx
      exact ⟨[], 10, n, hn, fun h => by omega⟩
  · exact ⟨[], 11, 0, by simp [encV, hc], fun h => by omega⟩
theorem backDec (zs : List Int) (s : List UInt8) : ∃ cs er n, decR zs s 1 = (cs, er, n) ∧ (er ≠ 0 → cs = []) ∧ (er = 0 → encV zs cs 1 (idxF zs) = strFault s 0 0 ∧ cs.length = s.length ∧ WfInts cs) := by
  by_cases hc : checkC zs = 0
  · obtain ⟨hn, hr, ht⟩ := codes_of_check hc
    obtain ⟨hd, _⟩ := twice_dist zs zs [] rfl ht
    have e2 : decR zs s 1 = decFrom zs 1 s 0 [] := by simp [decR, hc, polB]
    rw [e2]
    by_cases ha : ∀ b ∈ s, nth zs b.toNat ≠ -1
    · have h0 : ∀ b ∈ s, 0 ≤ nth zs b.toNat ∧ nth zs b.toNat ≤ 1114111 := fun b hb => by
        have hlt : b.toNat < 256 := UInt8.toNat_lt b
        rcases codes_ok hr _ (nth_mem (zs := zs) (k := b.toNat) (by omega)) with h | h
        · exact absurd h (ha b hb)
        · exact h
      obtain ⟨h1, h2⟩ := back_puts hn hd s (fun b hb => (h0 b hb).1)
      refine ⟨_, 0, 0, decAll zs s 0 [] ha, fun h => absurd rfl h, fun _ => ?_⟩
      rw [List.nil_append, idxF_eq hc]
      refine ⟨?_, by simp, ?_⟩
      · have e : encV zs (s.map (fun b => nth zs b.toNat)) 1 (byteF zs) = encFrom (byteF zs) 1 (s.map (fun b => nth zs b.toNat)) 0 [] := by simp [encV, hc, polB]
        rw [e, encAll _ _ _ _ h1, h2, List.nil_append]
      · intro z hz
        obtain ⟨b, hb, rfl⟩ := List.mem_map.1 hz
        have := h0 b hb
        omega
    · have hx : ∃ b ∈ s, nth zs b.toNat = -1 := by
        refine Decidable.byContradiction fun hno => ha fun b hb he => hno ⟨b, hb, he⟩
      obtain ⟨n, hn⟩ := decStop zs s 0 [] hx
      exact ⟨[], 9, n, hn, fun _ => rfl, fun h => by omega⟩
  · exact ⟨[], 11, 0, by simp [decR, hc], fun _ => rfl, fun h => by omega⟩
end Go.Proofs.YthpiopjpipdgnaaDoor
