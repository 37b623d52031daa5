/- The iterator of strings.SplitSeq, walked: it hands over the pieces, one behind the other. -/
import Derived.RangeFuncNested
import Derived.RangeFuncBound
import Derived.RangeFuncCalls
import Derived.RangeFuncLeaves
import Derived.Shelf.Abstract
import Derived.Shelf.RegionOpen
import Derived.WalkKit
import Derived.OwnWalkIn
import Derived.TacticsInMore
import Derived.LoopNIn
import Derived.LoopIn
import Derived.Test.YtpccgdlgfblaeaaDoorKey
namespace Go.Proofs.YtpccgdlgfblaeaaDoor
open Go.RowKit Go.Proofs Go.Shelf
attribute [local go_sem] Oper.semAt_some
/-- How much is left in the iterator's own variable. -/
def left (Bs : Nat) (W : World) : Nat := match W.cell? ⟨Bs, 0, none⟩ with | some (.string r) => r.size | _ => 0
theorem left_eq {Bs : Nat} {W : World} {r : ByteArray} (h : W.cell? ⟨Bs, 0, none⟩ = some (.string r)) : left Bs W = r.size := by unfold left; rw [h]
set_option maxHeartbeats 2000000 in
theorem splitIter_in (n : Nat) (hn : 3 ≤ n) (l Bsep Bs Bsv : Nat) (c : UInt8) (ok : ByteArray → Bool) (J : ByteArray → Bool → World → Prop)
    (hJ : ∀ r b W, J r b W → W.cell? ⟨Bs, 0, none⟩ = some (.string r) ∧ W.frozen? ⟨Bs, 0, none⟩ = false ∧ W.cell? ⟨Bsep, 0, none⟩ = some (.string ⟨#[c]⟩) ∧ W.cell? ⟨Bsv, 0, none⟩ = some (.int .i64 0))
    (hst : ∀ r r' b W, J r b W → J r' b (W.setCell ⟨Bs, 0, none⟩ (.string r')))
    (hY : ∀ r b x W, J r b W → YieldAt Fence.wide (n - 1) Tryd.prog l #[.string x] W fun e W' => e = .returned (.bool true) ∧ J r (b && ok x) W')
    (s : ByteArray) (b : Bool) (W : World) (hs : s.size ≤ 9223372036854775807) (h0 : J s b W) :
    CallsIn Fence.wide n Tryd.prog 47 #[.func (.yield l) #[] #[], .pointer (some ⟨Bsep, 0, none⟩), .pointer (some ⟨Bs, 0, none⟩), .pointer (some ⟨Bsv, 0, none⟩)] W
      fun e W' => (∃ v, e = .returned v) ∧ ∃ r, J r (b && (pieces c s).all ok) W' := by
  have HJ := Lib.hid hJ
  have HST := Lib.hid hst
  have HY := Lib.hid hY
  clear hJ hst hY
  refine callsIn_of_wp Tryd.func47 rfl trivial ?_ rfl
  simp only [Tryd.ntmps47, List.size_toArray, List.length_cons, List.length_nil, Nat.reduceAdd, Nat.reduceSub, Array.replicate_succ, Array.replicate_zero, List.push_toArray, List.append_toArray, List.nil_append, List.cons_append]
  obtain ⟨c0, c1, c2, c3⟩ := HJ.out _ _ _ h0
  gi_wp2
  clear c0 c1 c2 c3
  gi_loopw [7] (fun _ wr => ∃ r b', Hid (J r b' wr) ∧ r.size ≤ 9223372036854775807 ∧ Hid ((b' && (pieces c r).all ok) = (b && (pieces c s).all ok))) (fun _ wr => left Bs wr)
  case atStart => exact ⟨s, b, h0, hs, rfl⟩
  case round =>
    obtain ⟨r, b', hj, hr, ht⟩ := hrel
    obtain ⟨c0, c1, c2, c3⟩ := HJ.out _ _ _ hj.out
    have I := Lib.hid (Tryd.strings_Index_one r c wr)
    by_cases hi : idx c r < 0
    · have T := Lib.hid (pieces_last c r hi)
      have hi' : Lib.indexByte r.data.toList c < 0 := hi
      clear hi
      obtain ⟨fn, tmps, assign, body, hy, hR⟩ := HY.out r b' r wr hj.out
      have HR := Lib.hid hR
      clear hR
      gi_wp2_with fail
      refine ⟨trivial, fun _ => by omega, ?_⟩
      refine (callsIn_wide.2 I.out).mono ?_
      rintro e w' ⟨rfl, rfl⟩
      gi_wp2_with fail
      refine ⟨fun _ => by omega, HR.out.mono ?_⟩
      rintro e w1 ⟨rfl, hj1⟩
      gi_wp2_with fail
      go_end0
      refine ⟨⟨_, rfl⟩, r, ?_⟩
      rw [← ht.out, T.out]
      simpa using hj1
    · have hl := idx_lt c r (by omega)
      have T := Lib.hid (pieces_more c r hi)
      obtain ⟨i, hi1⟩ : ∃ i : Nat, Lib.indexByte r.data.toList c = i := ⟨(idx c r).toNat, by unfold idx at *; omega⟩
      have hi2 : (idx c r).toNat = i := by unfold idx; omega
      rw [hi2] at hl T
      have I2 := Lib.hid (by have := I.out; rw [hi1] at this; exact this : Calls Tryd.prog 49 #[.string r, .string ⟨#[c]⟩] wr fun e w' => e = .returned (.int .i64 (i : Int)) ∧ w' = wr)
      clear hi hi1 hi2 I
      obtain ⟨fn, tmps, assign, body, hy, hR⟩ := HY.out r b' (r.extract 0 i) wr hj.out
      have HR := Lib.hid hR
      clear hR
      gi_wp2_with fail
      refine ⟨trivial, fun _ => by omega, ?_⟩
      refine (callsIn_wide.2 I2.out).mono ?_
      rintro e w' ⟨rfl, rfl⟩
      gi_wp2_with fail
      refine ⟨fun _ => by omega, HR.out.mono ?_⟩
      rintro e w1 ⟨rfl, hj1⟩
      obtain ⟨d0, d1, d2, d3⟩ := HJ.out _ _ _ hj1
      have hj1' := Lib.hid hj1
      clear hj1
      gi_wp2_with fail
      go_roundw
      case rel =>
        refine ⟨r.extract (i + 1) r.size, b' && ok (r.extract 0 i), HST.out _ _ _ _ hj1'.out, by simp only [ByteArray.size_extract]; omega, ?_⟩
        show _ = _
        rw [← ht.out, T.out, List.all_cons, Bool.and_assoc]
      case measure =>
        obtain ⟨e0, _⟩ := HJ.out _ _ _ (HST.out _ (r.extract (i + 1) r.size) _ _ hj1'.out)
        rw [left_eq e0, left_eq c0]
        simp only [ByteArray.size_extract]
        omega
end Go.Proofs.YtpccgdlgfblaeaaDoor
