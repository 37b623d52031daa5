/- strings.Cut at a separator of one byte, walked. -/
import Derived.Test.YtpccgdlgfblaeaaDoorName
import Derived.Test.YtpccgdlgfblaeaaDoorShelf
import Derived.Deep.QuietTactic
import Derived.BigQuiet
namespace Go.Proofs.YtpccgdlgfblaeaaDoor
open Go.RowKit Go.Proofs
/-- Where the first byte c is; -1 without one. -/
def idx (c : UInt8) (s : ByteArray) : Int := Lib.indexByte s.data.toList c
theorem idx_lt (c : UInt8) (s : ByteArray) (h : 0 ≤ idx c s) : (idx c s).toNat < s.size := by
  have e : Lib.indexByte s.data.toList c = ((idx c s).toNat : Int) := by unfold idx at *; omega
  obtain ⟨h1, _⟩ := Lib.indexByte_some e
  rw [List.getElem?_eq_some_iff] at h1
  obtain ⟨h1, _⟩ := h1
  rwa [Array.length_toList] at h1
def cutB (c : UInt8) (s : ByteArray) : ByteArray × ByteArray × Bool :=
  if idx c s < 0 then (s, ⟨#[]⟩, false) else (s.extract 0 (idx c s).toNat, s.extract ((idx c s).toNat + 1) s.size, true)
def Tup3 (r : ByteArray × ByteArray × Bool) : Ending := .returned (.tuple #[.string r.1, .string r.2.1, .bool r.2.2])
def Drawn (w w' : World) : Prop := ∃ n, w' = w.drewN n
theorem Drawn.refl (w : World) : Drawn w w := ⟨0, rfl⟩
theorem Drawn.below {w w' : World} (h : Drawn w w') : Below w.heap.size w w' := by
  obtain ⟨n, rfl⟩ := h
  exact ⟨rfl, rfl, rfl, Nat.le_refl _, fun _ _ => rfl⟩
set_option maxHeartbeats 1000000 in
theorem liteCut_calls (c : UInt8) (s : ByteArray) (w : World) (hs : s.size ≤ 9223372036854775807) : Calls Tryd.prog 38 #[.string s, .string ⟨#[c]⟩] w fun e w' => e = Tup3 (cutB c s) ∧ Drawn w w' := by
  have I := Lib.hid (fun w => Tryd.stringslite_Index_one s c w)
  by_cases hn : idx c s < 0
  · have M : Hid (Tup3 (cutB c s) = Tup3 (s, ⟨#[]⟩, false)) := by unfold cutB; rw [if_pos hn]; rfl
    rw [M.out]; clear M
    have hn' : ¬ 0 ≤ Lib.indexByte s.data.toList c := by unfold idx at hn; omega
    clear hn
    go_enter Tryd.func38, Tryd.ntmps38
    go_wp2_with fail
    refine (I.out _).mono ?_
    rintro e w' ⟨rfl, rfl⟩
    go_wp2_with fail
    go_ret3
    exact ⟨rfl, Drawn.refl _⟩
  · have hl := idx_lt c s (by omega)
    have M : Hid (Tup3 (cutB c s) = Tup3 (s.extract 0 (idx c s).toNat, s.extract ((idx c s).toNat + 1) s.size, true)) := by unfold cutB; rw [if_neg hn]; rfl
    rw [M.out]; clear M
    obtain ⟨i, hi⟩ : ∃ i : Nat, Lib.indexByte s.data.toList c = i := ⟨(idx c s).toNat, by unfold idx at *; omega⟩
    have hi' : (idx c s).toNat = i := by unfold idx; omega
    rw [hi'] at hl ⊢
    have I2 := Lib.hid (fun w => (by have := I.out w; rw [hi] at this; exact this : Calls Tryd.prog 46 #[.string s, .string ⟨#[c]⟩] w fun e w' => e = .returned (.int .i64 (i : Int)) ∧ w' = w))
    clear hi hi' hn I
    go_enter Tryd.func38, Tryd.ntmps38
    go_wp2_with fail
    refine (I2.out _).mono ?_
    rintro e w' ⟨rfl, rfl⟩
    go_wp2_with fail
    go_quiet (fail)
    go_wp2_with fail
    go_ret3
    exact ⟨rfl, ⟨nq, rfl⟩⟩
set_option maxHeartbeats 400000 in
theorem cut_calls (c : UInt8) (s : ByteArray) (w : World) (hs : s.size ≤ 9223372036854775807) : Calls Tryd.prog 30 #[.string s, .string ⟨#[c]⟩] w fun e w' => e = Tup3 (cutB c s) ∧ Drawn w w' := by
  have C := Lib.hid (fun w => liteCut_calls c s w hs)
  unfold Tup3 at C
  unfold Tup3
  generalize cutB c s = r at C
  obtain ⟨r1, r2, r3⟩ := r
  go_enter Tryd.func30, Tryd.ntmps30
  go_wp2_with fail
  refine (C.out _).mono ?_
  rintro e w' ⟨rfl, hd⟩
  go_wp2_with fail
  go_ret3
  exact ⟨rfl, hd⟩
/-- The pieces of a text between the bytes c. -/
def pieces (c : UInt8) (s : ByteArray) : List ByteArray :=
  if h : idx c s < 0 then [s] else s.extract 0 (idx c s).toNat :: pieces c (s.extract ((idx c s).toNat + 1) s.size)
termination_by s.size
decreasing_by
  have := idx_lt c s (by omega)
  simp only [ByteArray.size_extract]
  omega
theorem pieces_last (c : UInt8) (s : ByteArray) (h : idx c s < 0) : pieces c s = [s] := by rw [pieces, dif_pos h]
theorem pieces_more (c : UInt8) (s : ByteArray) (h : ¬ idx c s < 0) : pieces c s = s.extract 0 (idx c s).toNat :: pieces c (s.extract ((idx c s).toNat + 1) s.size) := by rw [pieces, dif_neg h]
/-- What SplitSeq hands back: the walk over the pieces; three variables of its own. -/
theorem splitSeq_calls (s sep : ByteArray) (w : World) : Calls Tryd.prog 31 #[.string s, .string sep] w fun e w' =>
    e = .returned (.func (.func 47) #[] #[.pointer (some ⟨w.heap.size + 1, 0, none⟩), .pointer (some ⟨w.heap.size, 0, none⟩), .pointer (some ⟨w.heap.size + 2, 0, none⟩)]) ∧
      w' = ((w.alloc (.cells #[.string s] 9)).alloc (.cells #[.string sep] 9)).alloc (.cells #[.int .i64 0] 3) := by
  go_enter Tryd.func31, Tryd.ntmps31
  go_wp2
  go_ret
  exact ⟨rfl, rfl⟩
end Go.Proofs.YtpccgdlgfblaeaaDoor
