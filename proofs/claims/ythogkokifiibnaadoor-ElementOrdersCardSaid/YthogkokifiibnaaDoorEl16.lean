/- line -/
import Derived.Test.YthogkokifiibnaaDoorEl15
namespace Go.Proofs.YthogkokifiibnaaDoor
open Go.RowKit Go.Sort

theorem lineP_snoc (ws : List UInt8) {ns : List Int} {k : Nat} (h : k < ns.length) : lineP ws (ns.take (k + 1)) = (lineP ws (ns.take k) ++ [32]) ++ Lib.itoa (nth ns k) := by
  unfold lineP
  rw [List.take_add_one, List.flatMap_append]
  simp [nth, h]
theorem lineP_len (ws : List UInt8) (ns : List Int) (hr : ∀ n ∈ ns, 0 ≤ n ∧ n ≤ 9223372036854775807) : ∀ {k : Nat}, k ≤ ns.length → (lineP ws (ns.take k)).length ≤ ws.length + 22 * k
  | 0, _ => by simp [lineP]
  | k + 1, h => by
    have ih := lineP_len ws ns hr (k := k) (by omega)
    obtain ⟨h0, h1⟩ := hr _ (nth_mem (show k < ns.length by omega))
    have := Lib.itoa_length_le (nth ns k) (by omega) (by omega)
    rw [lineP_snoc ws (by omega)]
    simp only [List.length_append, List.length_singleton]
    omega

theorem new_byte (w : World) (c : UInt8) (x : Int) (hx : x = c.toNat) : ∀ j u, (Lib.byteCells [c])[j]? = some u → (w.alloc (.cells #[.int .u8 x] 5)).cell? ((⟨w.heap.size, 0, none⟩ : Addr).add j) = some u := by
  intro j u hu
  rw [Go.WideShapes.add_plain, Nat.zero_add, cell_box]
  subst hx
  simpa [Lib.byteCells] using hu

set_option maxHeartbeats 4000000 in
set_option maxRecDepth 100000 in
theorem elLine (ws : List UInt8) (ns : List Int) (A : Option Addr) (cp : Nat) (w : World) (hA : IntsAt w A ns) (hE : EnvF w) (hw : ws.length ≤ 100000) (hn : ns.length ≤ 100) (hr : ∀ n ∈ ns, 0 ≤ n ∧ n ≤ 9223372036854775807) :
    Calls Tryd.prog 24 #[.string ⟨ws.toArray⟩, .slice A ns.length cp] w fun e w' => e = .returned (.string ⟨(nl (lineP ws ns)).toArray⟩) ∧ Below w.heap.size w w' := by
  obtain ⟨v0, w1, hcv, hO, hb1⟩ := conv_bytes ws w (by omega)
  have HL := Lib.hid (fun k h => lineP_len ws ns hr (k := k) h)
  have HS := Lib.hid (fun k (h : k < ns.length) => lineP_snoc ws h)
  have HO := Lib.hid hO
  have HA := Lib.hid hA
  have HE := Lib.hid hE
  have Hr := Lib.hid hr
  clear hA hE hr
  clear hO
  go_enter Tryd.func24, Tryd.ntmps24
  go_wp2_with fail
  go_loopw [5, 12] (fun v i wr => ∃ (k : Nat) (acc : List UInt8), k ≤ ns.length ∧ i = .int .i64 k ∧ acc.length ≤ ws.length + 22 * k ∧ Hid (acc = lineP ws (ns.take k)) ∧ Hid (OwnB wr w.heap.size v acc) ∧ Below w.heap.size w wr) (fun _ i _ => ns.length - (intOf i).toNat)
  case atStart => exact ⟨0, ws, Nat.zero_le _, rfl, by omega, Lib.hid (by simp [lineP]), HO, hb1⟩
  case round =>
    obtain ⟨k, acc, hk, rfl, hal, HT, HB, hbr⟩ := hrel
    have hsz := hbr.size
    clear hcv
    by_cases hlt : k < ns.length
    · obtain ⟨b, off, rfl, hb, hc⟩ := (HA.out.keep hbr).at_ hlt
      have hki : (k : Int) < ns.length := by omega
      obtain ⟨hn0, hn1⟩ := Hr.out _ (nth_mem hlt)
      have hst := HS.out k hlt
      have hl2 := HL.out (k + 1) (by omega)
      rw [hst, ← HT.out] at hl2
      rw [← HT.out] at hst
      generalize nth ns k = z at hc hn0 hn1 hst hl2
      have hl3 : (acc ++ [32]).length ≤ 200000 := by simp; omega
      have Hst := Lib.hid hst
      clear hst
      go_wp2_with (at_builtin; refine wpB rfl _ _ rfl w.heap.size rfl (HB.out.keep (bBox wr _)) [32] rfl (new_byte wr 32 32 rfl) ?c1 ?c2 ?_)
      case c1 => (try simp); omega
      case c2 => (try simp); omega
      intro v2 w2 HO2 hb2
      have hb02 := hb2 w (hbr.trans ((bBox wr _).mono hbr.size))
      clear hb2
      generalize acc ++ [32] = acc2 at HO2 hl2 hl3 Hst
      have HI := Lib.hid (appInt acc2 w.heap.size z hn0 hn1 v2 w2 HO2.out hb02.size (by omega) (HE.out.keep hb02).tab)
      go_wp2_with fail
      refine HI.out.mono ?_
      rintro e w3 ⟨v3, rfl, hO3, hb3⟩
      have HO3 := Lib.hid hO3
      clear hO3
      go_wp2_with fail
      go_roundw
      case rel => exact ⟨k + 1, _, by omega, by go_num, hl2, Lib.hid Hst.out.symm, HO3, hb02.trans hb3⟩
      case measure => simp [intOf]; omega
    · obtain rfl : k = ns.length := by omega
      have hki : ¬ (ns.length : Int) < ns.length := by omega
      have hfin := HT.out
      rw [List.take_length] at hfin
      have Hfin := Lib.hid hfin
      clear hfin
      go_wp2_with (at_builtin; refine wpB rfl _ _ rfl w.heap.size rfl (HB.out.keep (bBox wr _)) [10] rfl (new_byte wr 10 10 rfl) ?c1 ?c2 ?_)
      case c1 => (try simp); omega
      case c2 => (try simp); omega
      intro v2 w2 HO2 hb2
      have hb02 := hb2 w (hbr.trans ((bBox wr _).mono hbr.size))
      have hc2 := HO2.out.conv
      have HN := Lib.hid (show nl (lineP ws ns) = acc ++ [10] by rw [← Hfin.out]; rfl)
      clear hb2
      generalize acc ++ [10] = acc2 at HO2 hc2 HN
      go_wp2_with fail
      go_ret
      exact ⟨by rw [HN.out]; rfl, hb02⟩
end Go.Proofs.YthogkokifiibnaaDoor
