/- escape.pieces and its iterator -/
import Derived.Test.YtgkogbjlbcllmaaDoorEs2
import Derived.Test.YtgkogbjlbcllmaaDoorRf
namespace Go.Proofs.YtgkogbjlbcllmaaDoor
open Go.RowKit Go.Shelf Go.Sort
attribute [local go_sem] Oper.semAt_some

/-- what the iterator hands over: a piece of at most ten bytes -/
abbrev Pc := { p : List UInt8 // p.length ≤ 10 }
def pcOf (c : Int) : Pc := ⟨pieceL c, pieceL_le c⟩

set_option maxHeartbeats 2000000 in
set_option maxRecDepth 100000 in
theorem pieces1 (n : Nat) (hn : 1 ≤ n) (Bx : Nat) (A : Option Addr) (cap : Nat) (zs : List Int) (w0 w : World) (hbx : Blk w Bx #[.slice A zs.length cap] 22)
    (hA : IntsAt w0 A zs) (hwf : WfInts zs) (hD : Dig w0) (hb0 : Below w0.heap.size w0 w) (hl : zs.length ≤ 1000000) :
    SeqStopsK Fence.wide n Tryd.prog 39 #[.pointer (some ⟨Bx, 0, none⟩)] (fun p : Pc => #[Value.string ⟨p.1.toArray⟩]) (KpB w0.heap.size Bx) (fun xs => xs = zs.map pcOf) (fun _ => True) zs.length w := by
  intro l J Jx W hW hJ hJx hY h0
  have hc0 : W.cell? ⟨Bx, 0, none⟩ = some (.slice A zs.length cap) := (hbx.keep hW).cell 0
  have hbW : Below w0.heap.size w0 W := hb0.trans (hW.mono hb0.size)
  have HA := Lib.hid hA
  have HD := Lib.hid hD
  have HW := Lib.hid hwf
  have HJ := Lib.hid hJ
  have HY := Lib.hid hY
  clear hA hD hwf hJ hY hJx hbx
  refine callsIn_of_wp Tryd.func39 rfl trivial ?_ rfl
  simp only [Tryd.ntmps39, List.size_toArray, List.length_cons, List.length_nil, Nat.reduceAdd, Nat.reduceSub, Array.replicate_succ, Array.replicate_zero, List.push_toArray, List.append_toArray, List.nil_append, List.cons_append]
  gi_wp2
  gi_loopw [7] (fun i wr => ∃ m : Nat, m ≤ zs.length ∧ i = .int .i64 m ∧ J ((zs.take m).map pcOf) wr ∧ Below w0.heap.size w0 wr) (fun i _ => zs.length - (intOf i).toNat)
  case atStart => exact ⟨0, Nat.zero_le _, rfl, h0, hbW⟩
  case round =>
    obtain ⟨m, hm, rfl, hJs, hbr⟩ := hrel
    by_cases hlt : m < zs.length
    · obtain ⟨b, off, rfl, hb, hc⟩ := HA.out.at_ (k := m) hlt
      have hcm : wr.cell? ⟨b, off + m, none⟩ = some (.int .i64 (nth zs m)) := (hbr.cell (p := ⟨b, off + m, none⟩) hb).trans hc
      have hw := HW.out _ (nth_mem hlt)
      have hs : (zs.take (m + 1)).map pcOf = (zs.take m).map pcOf ++ [pcOf (nth zs m)] := by
        rw [List.take_succ_eq_append_getElem hlt, List.map_append, nth_lt hlt]; rfl
      have hlen : ((zs.take m).map pcOf).length < zs.length := by simp; omega
      have HP := Lib.hid (esPiece (nth zs m) wr (HD.out.keep hbr) hw.1 hw.2)
      have Hs := Lib.hid hs
      clear hs
      gi_wp2_with fail
      refine ⟨trivial, (callsIn_wide.2 HP.out).mono ?_⟩
      rintro e w1 ⟨rfl, hb1⟩
      have hJ1 := HJ.out _ wr w1 none hJs (grownBy_of_below hb1) (fun r e => by cases e)
      obtain ⟨fn, tmps, assign, body, hy, hR⟩ := HY.out _ (pcOf (nth zs m)) w1 hJ1 hlen
      dsimp only [pcOf] at hy
      gi_wp2_with fail
      refine hR.mono ?_
      rintro e W3 (⟨rfl, hJ3, hk3⟩ | ⟨rfl, hJx3⟩)
      · gi_wp2
        go_roundw
        case rel => exact ⟨m + 1, by omega, by go_num, by rw [Hs.out]; exact hJ3, (hbr.trans (hb1.mono hbr.size)).trans hk3.1⟩
        case measure => simp [intOf]; omega
      · gi_wp2
        refine bodyPost_ret (results_none rfl _ _ _) rfl ?_
        exact ⟨⟨_, rfl⟩, .inr ⟨_, trivial, hJx3⟩⟩
    · obtain rfl : m = zs.length := by omega
      rw [List.take_length] at hJs
      gi_wp2
      go_end0
      exact ⟨⟨_, rfl⟩, .inl ⟨_, rfl, hJs⟩⟩
end Go.Proofs.YtgkogbjlbcllmaaDoor
