/- ref06.Missing -/
import Derived.Test.YthpiopjpipdgnaaDoorCsM2
import Derived.Test.YthpiopjpipdgnaaDoorCsL4
namespace Go.Proofs.YthpiopjpipdgnaaDoor
open Go.RowKit Go.Sort

/-- append(v, news...), the new ints somewhere, or none at all -/
theorem wpA {ops : Array Oper} {rest : List Oper} {o : Oper} {a : Act} {Q : Exit → Act → World → Prop} {W : World} (hgd : o.guard = none) (s x : Operand) (ho : o.op = .call { callee := .builtin .append, args := #[s, x], argTypes := #[22, 22] })
    (base : Nat) {v : Value} {zs : List Int} (hs : a.eval s = v) (h : OwnI W base v zs) {B : Option Addr} (news : List Int) {c2 : Nat} (hx : a.eval x = .slice B news.length c2) (hB : IntsAt W B news) (hcB : B = none → c2 = 0) (hl : zs.length + news.length ≤ 1000000) (hb : base ≤ W.heap.size)
    (hK : ∀ v' w', Hid (OwnI w' base v' (zs ++ news)) → (∀ w0, Below base w0 W → Below base w0 w') → wpList Tryd.prog ops Q rest (a.put o.dst v') w') : wpList Tryd.prog ops Q (o :: rest) a W := by
  by_cases hn : 0 < news.length
  · exact wpI hgd s x ho base hs h news hx hB hn hl hb hK
  · obtain rfl : news = [] := List.length_eq_zero_iff.1 (by omega)
    obtain ⟨i0, hi, hz0, hz1, hz2⟩ := info_parts infoInt
    cases B with
    | none =>
      obtain rfl : c2 = 0 := hcB rfl
      refine wpList_append_own_none hgd s x 22 ho base 3 i0 1 Tryd.underlying22 hi v zs.length (intVals zs) hs h hx ?_
      exact hK v W (Lib.hid (by rw [List.append_nil]; exact h)) (fun _ h0 => h0)
    | some ad =>
      refine wpList_append_own W hgd s x 22 ho base 3 i0 (.int .i64 0) 1 8 Tryd.underlying22 hi hz0 hz1 hz2 rfl (by decide) v zs.length (intVals zs) hs h ad 0 c2 [] hx rfl (fun j u hu => by simp at hu) (fun u hu => by cases hu) (by unfold maxLen; simp at hl; omega) (by simp at hl; omega) hb ?_
      intro v' w' hown' hg _
      refine hK v' w' (Lib.hid ?_) (fun w0 h0 => ?_)
      · unfold OwnI
        simpa [intVals] using hown'
      · exact h0.grown hg hb (fun k hk => (h.lt k hk).1)
theorem OwnI.empty (w : World) (base : Nat) (hb : base ≤ w.heap.size) : OwnI (w.alloc (.cells #[] 3)) base (.slice (some ⟨w.heap.size, 0, none⟩) 0 0) [] :=
  ⟨rfl, .inr ⟨w.heap.size, 0, #[], rfl, hb, heap_alloc_new w _, Nat.le_refl _, Nat.zero_le _, rfl, rfl⟩⟩
theorem OwnI.mono {w : World} {base base' : Nat} {v : Value} {zs : List Int} (h : OwnI w base v zs) (hb : base' ≤ base) : OwnI w base' v zs := by
  refine ⟨h.1, ?_⟩
  rcases h.2 with h | ⟨g, cap, cur, hv, hg, r⟩
  · exact .inl h
  · exact .inr ⟨g, cap, cur, hv, Nat.le_trans hb hg, r⟩
theorem OwnI.cap {w : World} {base : Nat} {A : Option Addr} {c : Nat} {zs : List Int} (h : OwnI w base (.slice A zs.length c) zs) : (A = none → c = 0) ∧ zs.length ≤ c := by
  rcases h.2 with ⟨hv, h0⟩ | ⟨g, cap, cur, hv, _, _, h1, _⟩
  · injection hv with e1 _ e3
    exact ⟨fun _ => e3, by omega⟩
  · injection hv with e1 _ e3
    refine ⟨fun e => ?_, by omega⟩
    rw [e1] at e
    cases e

theorem sizeElemInt (w : World) : (sizeOf (Tryd.prog.elem 22)).run Tryd.prog w = .ok 1 w := by kernel_rfl
theorem elemInt : Tryd.prog.underlying 22 = some (.slice (Tryd.prog.elem 22)) := by kernel_rfl
/-- xs[:j] -/
theorem sliceHi (A : Option Addr) (xs : List Int) (c j : Nat) (hj : j ≤ xs.length) (hc : xs.length ≤ c) (hN : A = none → c = 0) :
    ∃ A', (∀ w, (Instr.slice 22 (.slice A xs.length c) none (some (.int .i64 j)) none).run Tryd.prog w = .ok (.slice A' (xs.take j).length c) w) ∧ (∀ w, IntsAt w A xs → IntsAt w A' (xs.take j)) ∧ (A' = none → c = 0) := by
  refine ⟨if c = 0 then A else A.map (·.add (0 * 1)), fun w => ?_, fun w h hn => ?_, fun h => ?_⟩
  · rw [run_slice_h w _ A _ c elemInt _ _ (by omega) (by omega), sizeElemInt]
    simp [sliced, Result.andThen, Nat.min_eq_left hj]
  · have hl : (xs.take j).length = j := by simp [hj]
    rw [hl] at hn
    obtain ⟨b, off, rfl, hlt, hc2⟩ := h (by omega)
    refine ⟨b, off, by split <;> simp [Addr.add], hlt, fun i hi => ?_⟩
    rw [hl] at hi
    rw [hc2 i (by omega)]
    simp [nth, hi]
  · split at h
    · assumption
    · cases A with
      | none => exact hN rfl
      | some a => cases h
/-- xs[j:] -/
theorem sliceLo (A : Option Addr) (xs : List Int) (c j : Nat) (hj : j ≤ xs.length) (hc : xs.length ≤ c) (hN : A = none → c = 0) :
    ∃ A', (∀ w, (Instr.slice 22 (.slice A xs.length c) (some (.int .i64 j)) none none).run Tryd.prog w = .ok (.slice A' (xs.drop j).length (c - j)) w) ∧ (∀ w, IntsAt w A xs → IntsAt w A' (xs.drop j)) ∧ (A' = none → c - j = 0) := by
  refine ⟨if c = j then A else A.map (·.add (j * 1)), fun w => ?_, fun w h hn => ?_, fun h => ?_⟩
  · rw [run_slice_l w _ A _ c elemInt _ _ (by omega) (by omega), sizeElemInt]
    simp [sliced, Result.andThen]
  · rw [List.length_drop] at hn
    obtain ⟨b, off, rfl, hlt, hc2⟩ := h (by omega)
    rw [if_neg (by omega)]
    refine ⟨b, off + j, by simp [Addr.add], hlt, fun i hi => ?_⟩
    rw [List.length_drop] at hi
    rw [Nat.add_assoc, hc2 (j + i) (by omega)]
    simp [nth]
  · split at h
    · omega
    · cases A with
      | none => have := hN rfl; omega
      | some a => cases h

theorem insU_at {x : Int} : ∀ {l : List Int} {j : Nat}, j ≤ l.length → (∀ i, i < j → nth l i < x) → (j < l.length → ¬ nth l j < x) → insU x l = if j < l.length ∧ nth l j = x then l else l.take j ++ [x] ++ l.drop j
  | [], 0, _, _, _ => by simp [insU]
  | y :: r, 0, _, _, h2 => by
    have h3 := h2 (by simp)
    have e : nth (y :: r) 0 = y := rfl
    rw [e] at h3 ⊢
    rw [insU, if_neg h3]
    by_cases h : y = x
    · simp [h]
    · simp [h]
  | y :: r, j + 1, hj, h1, h2 => by
    have h3 : y < x := h1 0 (by omega)
    have ih := insU_at (x := x) (l := r) (j := j) (by simpa using hj) (fun i hi => h1 (i + 1) (by omega)) (fun h => h2 (by simpa using h))
    have e : nth (y :: r) (j + 1) = nth r j := rfl
    rw [insU, if_pos h3, ih, e]
    by_cases h : j < r.length ∧ nth r j = x
    · rw [if_pos h, if_pos ⟨by simpa using h.1, h.2⟩]
    · rw [if_neg h, if_neg (fun hh => h ⟨by simpa using hh.1, hh.2⟩)]
      simp
theorem miss_keep {f : Int → Option Int} {l acc r : List Int} {k : Nat} (hk : k < l.length) (h : r = missFrom f (l.drop k) acc) (hx : (f (nth l k)).isSome = true) : r = missFrom f (l.drop (k + 1)) acc := by
  rw [h, drop_nth hk, missFrom, if_pos hx]
theorem miss_put {f : Int → Option Int} {l acc r : List Int} {k : Nat} (hk : k < l.length) (h : r = missFrom f (l.drop k) acc) (hx : (f (nth l k)).isSome = false) : r = missFrom f (l.drop (k + 1)) (insU (nth l k) acc) := by
  rw [h, drop_nth hk, missFrom, if_neg (by rw [hx]; simp)]

set_option maxHeartbeats 4000000 in
set_option maxRecDepth 100000 in
theorem rfMissing (zs text : List Int) (A B : Option Addr) (cap cap2 : Nat) (w : World) (hA : IntsAt w A zs) (hl : zs.length ≤ 300) (hB : IntsAt w B text) (hl2 : text.length ≤ 100) :
    Calls Tryd.prog 26 #[.agg #[.slice A zs.length cap], .slice B text.length cap2] w (MissOut (missR zs text) w) := by
  have HC := Lib.hid (fun w' hb => refCheck zs A cap w' (IntsAt.keep hA hb) hl)
  by_cases hc : checkC zs = 0
  · have hc' : (checkC zs != 0) = false := by simpa using hc
    have HV := Lib.hid (show missR zs text = missFrom (byteF zs) text [] by simp [missR, hc])
    have HY := Lib.hid (fun x w' hb => refByte zs A cap x w' (IntsAt.keep hA hb) hl)
    have HB := Lib.hid hB
    have Hc := Lib.hid hc
    clear hB hc
    clear hA
    go_enter Tryd.func26, Tryd.ntmps26
    go_wp2_with fail
    refine (HC.out _ (bBox _ _)).mono ?_
    rintro e w1 ⟨rfl, hb1⟩
    have b0 := (Blk.new w #[.slice A zs.length cap] 24).keep hb1
    have hw1 : Below w.heap.size w w1 := bUp (bBox _ _) hb1
    have Hb0 := Lib.hid b0
    clear b0
    go_wp2_with fail
    go_loopw [5, 6] (fun o i wr => ∃ (k : Nat) (acc : List Int), k ≤ text.length ∧ i = .int .i64 k ∧ Hid (OwnI wr w1.heap.size o acc) ∧ acc.length ≤ k ∧ Hid (missR zs text = missFrom (byteF zs) (text.drop k) acc) ∧ Below w1.heap.size w1 wr) (fun _ i _ => text.length - (intOf i).toNat)
    case atStart => exact ⟨0, [], Nat.zero_le _, rfl, Lib.hid (OwnI.nil _ _), by simp, HV, Below.refl _ _⟩
    case round =>
      obtain ⟨k, acc, hk, rfl, HO, hacc, HE, hbr⟩ := hrel
      by_cases hlt : k < text.length
      · obtain ⟨b, off, rfl, hb, hcc⟩ := (HB.out.keep (bUp hw1 hbr)).at_ (k := k) hlt
        have c0 := (Hb0.out.keep hbr).cell 0
        have hmp := fun (h : (byteF zs (nth text k)).isSome = false) => miss_put hlt HE.out h
        have hmk := fun (h : (byteF zs (nth text k)).isSome = true) => miss_keep hlt HE.out h
        generalize nth text k = x at hcc hmp hmk
        cases hx : (byteF zs x).isSome
        · have HE' := Lib.hid (hmp hx)
          clear hmp hmk
          have q0 : decide (0 ≤ byteL x zs 0) = false := by
            unfold byteF at hx
            split at hx
            · simp; omega
            · cases hx
          have Hx := Lib.hid hx
          clear hx
          go_wp2_with fail
          refine (HY.out _ _ (bUp hw1 hbr)).mono ?_
          rintro e w2 ⟨rfl, hb2⟩
          have HO2 := Lib.hid (HO.out.keep hb2)
          have hbr2 : Below w1.heap.size w1 w2 := bUp hbr hb2
          obtain ⟨Ao, co, rfl⟩ := HO.out.form
          have hco := HO2.out.cap
          have hN := Lib.hid hco.1
          have hcl := hco.2
          clear HO c0 hcc hco HE
          go_wp2_with fail
          go_loop [8] (fun t => ∃ j : Nat, j ≤ acc.length ∧ t = .int .i64 j ∧ Hid (∀ i, i < j → nth acc i < x)) (fun t => acc.length - (intOf t).toNat)
          case atStart => exact ⟨0, Nat.zero_le _, rfl, Lib.hid (fun i hi => absurd hi (Nat.not_lt_zero _))⟩
          case round =>
            obtain ⟨j, hj, rfl, HJ⟩ := hrel
            by_cases hjl : j < acc.length
            · obtain ⟨bo, oo, rfl, hbo, hco⟩ := HO2.out.ints.at_ hjl
              have t1 : decide (j < acc.length) = true := by simpa using hjl
              have t1' : (j : Int) < acc.length := by omega
              by_cases hlx : nth acc j < x
              · have t2 : decide (nth acc j < x) = true := by simpa using hlx
                have HJ' := Lib.hid (show ∀ i, i < j + 1 → nth acc i < x from fun i hi => by
                  by_cases e : i = j
                  · rw [e]; exact hlx
                  · exact HJ.out i (by omega))
                go_wp2_with fail
                go_round
                case rel => exact ⟨j + 1, by omega, by go_num, HJ'⟩
                case measure => simp [intOf]; omega
              · have t2 : decide (nth acc j < x) = false := by simpa using hlx
                have HI := Lib.hid (insU_at (x := x) (l := acc) (j := j) hj HJ.out (fun _ => hlx))
                have t3 : ((j : Int) == acc.length) = false := by simp; omega
                by_cases hxx : nth acc j = x
                · have t4 : (nth acc j != x) = false := by simpa using hxx
                  have HI' := Lib.hid (show insU x acc = acc by rw [HI.out, if_pos ⟨hjl, hxx⟩])
                  have Hxx := Lib.hid hxx
                  clear hxx
                  go_wp2_with fail
                  go_roundw
                  case rel => exact ⟨k + 1, acc, by omega, by go_num, HO2, by omega, Lib.hid (by rw [HE'.out, HI'.out]), hbr2⟩
                  case measure => simp [intOf]; omega
                · have t4 : (nth acc j != x) = true := by simpa using hxx
                  have HI' := Lib.hid (show insU x acc = acc.take j ++ [x] ++ acc.drop j by rw [HI.out, if_neg (fun h => hxx h.2)])
                  obtain ⟨A1, s1, i1, n1⟩ := sliceHi (some ⟨bo, oo, none⟩) acc co j hj hcl hN.out
                  obtain ⟨A2, s2, i2, n2⟩ := sliceLo (some ⟨bo, oo, none⟩) acc co j hj hcl hN.out
                  have hl1 : (acc.take j).length ≤ 100 := by simp; omega
                  have hl2' : (acc.drop j).length ≤ 100 := by simp; omega
                  have hls : (acc.take j).length + (acc.drop j).length ≤ acc.length := by simp; omega
                  have hsz2 := hbr2.size
                  have Hxx := Lib.hid hxx
                  have I1 := Lib.hid i1
                  have N1 := Lib.hid n1
                  have I2 := Lib.hid i2
                  have N2 := Lib.hid n2
                  clear hxx i1 n1 i2 n2
                  generalize acc.take j = tk at s1 I1 hl1 HI' hls
                  generalize acc.drop j = dr at s2 I2 hl2' HI' hls
                  have hq1 : ([] : List Int).length + tk.length ≤ 1000000 := by simp; omega
                  have hq2 : tk.length + [x].length ≤ 1000000 := by simp; omega
                  have hq3 : (tk ++ [x]).length + dr.length ≤ 1000000 := by simp; omega
                  go_wp2_with (at_builtin; refine wpA rfl _ _ rfl w2.heap.size rfl (OwnI.empty _ _ (Nat.le_refl _)) tk rfl (I1.out _ (HO2.out.ints.keep (bBox _ _))) N1.out hq1 (bBox _ _).size ?_)
                  intro v3 w3 HO3 hb3
                  have hbw3 := hb3 w2 ((Below.refl _ _).alloc (Nat.le_refl _) _)
                  have hsz3 := hbw3.size
                  clear hb3
                  go_wp2_with (at_builtin; refine wpA rfl _ _ rfl w2.heap.size rfl (HO3.out.keep (bBox _ _)) [x] rfl (ints_new _ _ _) (fun h => by cases h) hq2 (Nat.le_trans hsz3 (bBox _ _).size) ?_)
                  intro v4 w4 HO4 hb4
                  have hbw4 := hb4 w2 (hbw3.alloc hsz3 _)
                  have hsz4 := hbw4.size
                  clear hb4
                  go_wp2_with (at_builtin; refine wpA rfl _ _ rfl w2.heap.size rfl HO4.out dr rfl (I2.out _ (HO2.out.ints.keep hbw4)) N2.out hq3 hsz4 ?_)
                  intro v5 w5 HO5 hb5
                  have hbw5 := hb5 w2 hbw4
                  clear hb5
                  have HO6 := Lib.hid (HO5.out.mono hsz2)
                  go_wp2_with fail
                  go_roundw
                  case rel => exact ⟨k + 1, _, by omega, by go_num, HO6, by simp; omega, Lib.hid (by rw [HE'.out, HI'.out]; simp), bUp hbr2 hbw5⟩
                  case measure => simp [intOf]; omega
            · have hje : j = acc.length := by omega
              have t1 : decide (j < acc.length) = false := by simpa using hjl
              have t3 : ((j : Int) == acc.length) = true := by simp; omega
              have HI := Lib.hid (insU_at (x := x) (l := acc) (j := j) hj HJ.out (fun h => absurd h hjl))
              have HI' := Lib.hid (show insU x acc = acc.take j ++ [x] ++ acc.drop j by rw [HI.out, if_neg (fun h => hjl h.1)])
              obtain ⟨A1, s1, i1, n1⟩ := sliceHi Ao acc co j hj hcl hN.out
              obtain ⟨A2, s2, i2, n2⟩ := sliceLo Ao acc co j hj hcl hN.out
              have hl1 : (acc.take j).length ≤ 100 := by simp; omega
              have hl2' : (acc.drop j).length ≤ 100 := by simp; omega
              have hls : (acc.take j).length + (acc.drop j).length ≤ acc.length := by simp; omega
              have hsz2 := hbr2.size
              have I1 := Lib.hid i1
              have N1 := Lib.hid n1
              have I2 := Lib.hid i2
              have N2 := Lib.hid n2
              clear i1 n1 i2 n2
              clear hje
              generalize acc.take j = tk at s1 I1 hl1 HI' hls
              generalize acc.drop j = dr at s2 I2 hl2' HI' hls
              have hq1 : ([] : List Int).length + tk.length ≤ 1000000 := by simp; omega
              have hq2 : tk.length + [x].length ≤ 1000000 := by simp; omega
              have hq3 : (tk ++ [x]).length + dr.length ≤ 1000000 := by simp; omega
              go_wp2_with (at_builtin; refine wpA rfl _ _ rfl w2.heap.size rfl (OwnI.empty _ _ (Nat.le_refl _)) tk rfl (I1.out _ (HO2.out.ints.keep (bBox _ _))) N1.out hq1 (bBox _ _).size ?_)
              intro v3 w3 HO3 hb3
              have hbw3 := hb3 w2 ((Below.refl _ _).alloc (Nat.le_refl _) _)
              have hsz3 := hbw3.size
              clear hb3
              go_wp2_with (at_builtin; refine wpA rfl _ _ rfl w2.heap.size rfl (HO3.out.keep (bBox _ _)) [x] rfl (ints_new _ _ _) (fun h => by cases h) hq2 (Nat.le_trans hsz3 (bBox _ _).size) ?_)
              intro v4 w4 HO4 hb4
              have hbw4 := hb4 w2 (hbw3.alloc hsz3 _)
              have hsz4 := hbw4.size
              clear hb4
              go_wp2_with (at_builtin; refine wpA rfl _ _ rfl w2.heap.size rfl HO4.out dr rfl (I2.out _ (HO2.out.ints.keep hbw4)) N2.out hq3 hsz4 ?_)
              intro v5 w5 HO5 hb5
              have hbw5 := hb5 w2 hbw4
              clear hb5
              have HO6 := Lib.hid (HO5.out.mono hsz2)
              go_wp2_with fail
              go_roundw
              case rel => exact ⟨k + 1, _, by omega, by go_num, HO6, by simp; omega, Lib.hid (by rw [HE'.out, HI'.out]; simp), bUp hbr2 hbw5⟩
              case measure => simp [intOf]; omega
        · have HE' := Lib.hid (hmk hx)
          clear hmp hmk
          have q0 : decide (0 ≤ byteL x zs 0) = true := by
            unfold byteF at hx
            split at hx
            · cases hx
            · simp; omega
          have Hx := Lib.hid hx
          clear hx
          go_wp2_with fail
          refine (HY.out _ _ (bUp hw1 hbr)).mono ?_
          rintro e w2 ⟨rfl, hb2⟩
          go_wp2_with fail
          go_roundw
          case rel => exact ⟨k + 1, acc, by omega, by go_num, Lib.hid (HO.out.keep hb2), by omega, HE', bUp hbr hb2⟩
          case measure => simp [intOf]; omega
      · have HE' := Lib.hid (show missR zs text = acc by rw [HE.out, List.drop_eq_nil_of_le (by omega)]; rfl)
        obtain ⟨A', c', rfl⟩ := HO.out.form
        clear HE
        go_wp2_with fail
        go_ret
        rw [HE'.out]
        exact ⟨A', c', rfl, HO.out.ints, bUp hw1 hbr⟩
  · have hc' : (checkC zs != 0) = true := by simpa using hc
    have HV := Lib.hid (show missR zs text = [] by simp [missR, hc])
    have Hc := Lib.hid hc
    have HB := Lib.hid hB
    clear hc hB
    clear hA
    go_enter Tryd.func26, Tryd.ntmps26
    go_wp2_with fail
    refine (HC.out _ (bBox _ _)).mono ?_
    rintro e w1 ⟨rfl, hb1⟩
    go_wp2_with fail
    go_ret
    rw [HV.out]
    exact ⟨none, 0, rfl, IntsAt.nil, bUp (bBox _ _) hb1⟩
end Go.Proofs.YthpiopjpipdgnaaDoor
