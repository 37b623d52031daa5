/- The small functions of package name, walked: each returns what its Lean function says. -/
import Derived.Test.YtpccgdlgfblaeaaDoorProg
import Derived.WalkKit
import Derived.KernelRfl
import Derived.OwnWalk
import Derived.Outline
import Derived.Below
import Derived.WalkLawsBesides
import Derived.WalkSpells
import Derived.LoopTactic
import Derived.IntWalk
import Derived.Lib.Hide
import Derived.Shelf.Abstract
namespace Go.Proofs.YtpccgdlgfblaeaaDoor
open Go.RowKit Go.Proofs

def isEdge (c : Int) : Bool := (decide (97 ≤ c) && decide (c ≤ 122)) || (decide (65 ≤ c) && decide (c ≤ 90)) || (decide (48 ≤ c) && decide (c ≤ 57))
theorem ret_bool {a b : Bool} (h : a = b) : Ending.returned (.bool a) = .returned (.bool b) := by rw [h]
set_option maxHeartbeats 400000 in
theorem isEdge_calls (c : Int) (w : World) : Calls Tryd.prog 43 #[.int .u8 c] w fun e w' => e = .returned (.bool (isEdge c)) ∧ w = w' := by
  go_enter Tryd.func43, Tryd.ntmps43
  go_wp2
  all_goals (go_ret; refine ⟨ret_bool ?_, rfl⟩; unfold isEdge; grind)

def isLow (c : Int) : Bool := isEdge c && (decide (c < 65) || decide (90 < c))
set_option maxHeartbeats 400000 in
theorem isLow_calls (c : Int) (w : World) : Calls Tryd.prog 41 #[.int .u8 c] w fun e w' => e = .returned (.bool (isLow c)) ∧ w = w' := by
  cases hb : isEdge c
  all_goals
    go_enter Tryd.func41, Tryd.ntmps41
    go_wp2_with (go_at_call 43; refine (isEdge_calls _ _).mono ?_; rintro e w' ⟨rfl, rfl⟩)
    all_goals (go_ret; refine ⟨ret_bool ?_, rfl⟩; unfold isLow; grind)
def isDash (c : Int) : Bool := c == 45
set_option maxHeartbeats 400000 in
theorem isDash_calls (c : Int) (w : World) : Calls Tryd.prog 42 #[.int .u8 c] w fun e w' => e = .returned (.bool (isDash c)) ∧ w = w' := by
  go_enter Tryd.func42, Tryd.ntmps42
  go_wp2
  all_goals (go_ret; refine ⟨ret_bool ?_, rfl⟩; unfold isDash; grind)
def isPunct (c : Int) : Bool := c == 45 || c == 95 || c == 46
set_option maxHeartbeats 400000 in
theorem isPunct_calls (c : Int) (w : World) : Calls Tryd.prog 44 #[.int .u8 c] w fun e w' => e = .returned (.bool (isPunct c)) ∧ w = w' := by
  go_enter Tryd.func44, Tryd.ntmps44
  go_wp2
  all_goals (go_ret; refine ⟨ret_bool ?_, rfl⟩; unfold isPunct; grind)
/-- The byte at place i, as a number. -/
def byteAt (s : ByteArray) (i : Nat) : Int := (s.data.toList.getD i 0).toNat
theorem byteAt_eq (s : ByteArray) (i : Nat) (h : i < s.size) : ((s[i]'h).toNat : Int) = byteAt s i := by
  have e : s[i]'h = s.data[i]'h := rfl
  unfold byteAt
  rw [e, List.getD_eq_getElem?_getD, Array.getElem?_toList, Array.getElem?_eq_getElem h]; rfl
def madeB (pe pw : Int → Bool) (s : ByteArray) : Bool :=
  decide (0 < s.size) && pe (byteAt s 0) && pe (byteAt s (s.size - 1)) && (List.range s.size).all (fun i => pe (byteAt s i) || pw (byteAt s i))
def Yields (P : Program) (g : Nat) (p : Int → Bool) : Prop := ∀ (c : Int) (w : World), Calls P g #[.int .u8 c] w fun e w' => e = .returned (.bool (p c)) ∧ w = w'
def Enters (P : Program) (g : Nat) : Prop := ∀ args w, (callFunc g args).run P w = .ok (.enter g args) w
theorem toList_isEmpty (s : ByteArray) : s.toList.isEmpty = decide (s.size = 0) := by
  have : s.toList = s.data.toList := by simp [ByteArray.toList_eq]
  rw [this]; cases h : s.data.toList <;> simp [ByteArray.size, ← Array.length_toList, h]

theorem madeB_empty (pe pw : Int → Bool) (s : ByteArray) (h : s.size = 0) : madeB pe pw s = false := by simp [madeB, h]
theorem madeB_first (pe pw : Int → Bool) (s : ByteArray) (h : pe (byteAt s 0) = false) : madeB pe pw s = false := by simp [madeB, h]
theorem madeB_last (pe pw : Int → Bool) (s : ByteArray) (h : pe (byteAt s (s.size - 1)) = false) : madeB pe pw s = false := by simp [madeB, h]
theorem madeB_mid (pe pw : Int → Bool) (s : ByteArray) (k : Nat) (hk : k < s.size) (h1 : pe (byteAt s k) = false) (h2 : pw (byteAt s k) = false) : madeB pe pw s = false := by
  simp only [madeB, Bool.and_eq_false_iff, List.all_eq_false]
  exact .inr ⟨k, by simpa using hk, by simp [h1, h2]⟩
theorem madeB_all (pe pw : Int → Bool) (s : ByteArray) (h : 0 < s.size) (h0 : pe (byteAt s 0) = true) (h1 : pe (byteAt s (s.size - 1)) = true)
    (h2 : ∀ i, i < s.size → (pe (byteAt s i) || pw (byteAt s i)) = true) : madeB pe pw s = true := by
  simp only [madeB, Bool.and_eq_true, List.all_eq_true, List.mem_range, decide_eq_true_eq]
  exact ⟨⟨⟨h, h0⟩, h1⟩, h2⟩
theorem ret_eq {a b : Bool} {w w' : World} (h : b = a) (hw : w = w') : Ending.returned (.bool a) = .returned (.bool b) ∧ w = w' := by subst h hw; exact ⟨rfl, rfl⟩
theorem Yields.at {P : Program} {g : Nat} {p : Int → Bool} (h : Yields P g p) {c : Int} {b : Bool} (hb : p c = b) (w : World) : Calls P g #[.int .u8 c] w fun e w' => e = .returned (.bool b) ∧ w = w' := by
  have := h c w; rw [hb] at this; exact this
set_option maxHeartbeats 1000000 in
theorem made_calls (s : ByteArray) (ge gw : Nat) (pe pw : Int → Bool) (w : World) (hs : s.size ≤ 9223372036854775807) (he : Yields Tryd.prog ge pe) (hw : Yields Tryd.prog gw pw)
    (ee : Enters Tryd.prog ge) (ew : Enters Tryd.prog gw) :
    Calls Tryd.prog 40 #[.string s, .func (.func ge) #[] #[], .func (.func gw) #[] #[]] w fun e w' => e = .returned (.bool (madeB pe pw s)) ∧ w = w' := by
  have He := Lib.hid he
  have Hw := Lib.hid hw
  clear he hw
  unfold Enters at ee ew
  have hem := toList_isEmpty s
  by_cases h0 : s.size = 0
  · have hm := madeB_empty pe pw s h0
    have hemp : s.toList.isEmpty = true := by rw [hem]; simp [h0]
    have M := Lib.hid hm
    clear hm hem h0
    go_enter Tryd.func40, Tryd.ntmps40
    go_wp2_with fail
    go_ret
    exact ret_eq M.out rfl
  · have hemp : s.toList.isEmpty = false := by rw [hem]; simp [h0]
    have hp : 0 < s.size := by omega
    have hl : s.size - 1 < s.size := by omega
    have eB := byteAt_eq s
    clear hem h0
    cases hb0 : pe (byteAt s 0) with
    | false =>
      have M := Lib.hid (madeB_first pe pw s hb0)
      have C0 := Lib.hid (He.out.at hb0)
      clear hb0
      go_enter Tryd.func40, Tryd.ntmps40
      go_wp2_with fail
      refine (C0.out _).mono ?_
      rintro e w' ⟨rfl, rfl⟩
      go_wp2_with fail
      go_ret
      exact ret_eq M.out rfl
    | true =>
      have C0 := Lib.hid (He.out.at hb0)
      have B0 := Lib.hid hb0
      clear hb0
      cases hb1 : pe (byteAt s (s.size - 1)) with
      | false =>
        have M := Lib.hid (madeB_last pe pw s hb1)
        have C1 := Lib.hid (He.out.at hb1)
        clear hb1
        go_enter Tryd.func40, Tryd.ntmps40
        go_wp2_with fail
        refine (C0.out _).mono ?_
        rintro e w' ⟨rfl, rfl⟩
        go_wp2_with fail
        refine (C1.out _).mono ?_
        rintro e w' ⟨rfl, rfl⟩
        go_wp2_with fail
        go_ret
        exact ret_eq M.out rfl
      | true =>
        have C1 := Lib.hid (He.out.at hb1)
        have B1 := Lib.hid hb1
        clear hb1
        go_enter Tryd.func40, Tryd.ntmps40
        go_wp2_with fail
        refine (C0.out _).mono ?_
        rintro e w' ⟨rfl, rfl⟩
        go_wp2_with fail
        refine (C1.out _).mono ?_
        rintro e w' ⟨rfl, rfl⟩
        go_wp2_with fail
        go_loop [29] (fun i => ∃ k : Nat, k ≤ s.size ∧ i = .int .i64 k ∧ Hid (∀ j, j < k → (pe (byteAt s j) || pw (byteAt s j)) = true)) (fun i => s.size - (intOf i).toNat)
        case atStart => exact ⟨0, Nat.zero_le _, rfl, fun j hj => absurd hj (Nat.not_lt_zero _)⟩
        case round =>
          obtain ⟨k, hk, rfl, A⟩ := hrel
          by_cases hlt : k < s.size
          · cases hbk : pe (byteAt s k) with
            | true =>
              have CK := Lib.hid (He.out.at hbk)
              have BK := Lib.hid hbk
              clear hbk
              go_wp2_with fail
              refine (CK.out _).mono ?_
              rintro e w' ⟨rfl, rfl⟩
              go_wp2_with fail
              go_round
              case rel => exact ⟨k + 1, by omega, by go_num, fun j hj => by
                by_cases e : j = k
                · subst e; rw [BK.out]; rfl
                · exact A.out j (by omega)⟩
              case measure => simp [intOf]; omega
            | false =>
              have CK := Lib.hid (He.out.at hbk)
              have BK := Lib.hid hbk
              clear hbk
              cases hbw : pw (byteAt s k) with
              | true =>
                have CW := Lib.hid (Hw.out.at hbw)
                have BW := Lib.hid hbw
                clear hbw
                go_wp2_with fail
                refine (CK.out _).mono ?_
                rintro e w' ⟨rfl, rfl⟩
                go_wp2_with fail
                refine (CW.out _).mono ?_
                rintro e w' ⟨rfl, rfl⟩
                go_wp2_with fail
                go_round
                case rel => exact ⟨k + 1, by omega, by go_num, fun j hj => by
                  by_cases e : j = k
                  · subst e; rw [BW.out]; simp
                  · exact A.out j (by omega)⟩
                case measure => simp [intOf]; omega
              | false =>
                have CW := Lib.hid (Hw.out.at hbw)
                have BW := Lib.hid hbw
                clear hbw
                go_wp2_with fail
                refine (CK.out _).mono ?_
                rintro e w' ⟨rfl, rfl⟩
                go_wp2_with fail
                refine (CW.out _).mono ?_
                rintro e w' ⟨rfl, rfl⟩
                go_wp2_with fail
                go_ret
                exact ret_eq (madeB_mid pe pw s k hlt BK.out BW.out) rfl
          · go_wp2_with fail
            go_ret
            exact ret_eq (madeB_all pe pw s hp B0.out B1.out (fun i hi => A.out i (by omega))) rfl

theorem enters_isLow : Enters Tryd.prog 41 := enters_of Tryd.func41 (by kernel_rfl) rfl
theorem enters_isEdge : Enters Tryd.prog 43 := enters_of Tryd.func43 (by kernel_rfl) rfl
theorem enters_isDash : Enters Tryd.prog 42 := enters_of Tryd.func42 (by kernel_rfl) rfl
theorem enters_isPunct : Enters Tryd.prog 44 := enters_of Tryd.func44 (by kernel_rfl) rfl
def isName (s : ByteArray) : Bool := madeB isLow isDash s
def isWord (s : ByteArray) : Bool := madeB isEdge isPunct s
set_option maxHeartbeats 400000 in
theorem isName_calls (s : ByteArray) (w : World) (hs : s.size ≤ 9223372036854775807) : Calls Tryd.prog 32 #[.string s] w fun e w' => e = .returned (.bool (isName s)) ∧ w = w' := by
  have H := Lib.hid (made_calls s 41 42 isLow isDash w hs (fun c w => isLow_calls c w) (fun c w => isDash_calls c w) enters_isLow enters_isDash)
  go_enter Tryd.func32, Tryd.ntmps32
  go_wp2_with fail
  refine H.out.mono ?_
  rintro e w' ⟨rfl, rfl⟩
  go_wp2_with fail
  go_ret
  exact ⟨rfl, rfl⟩
set_option maxHeartbeats 400000 in
theorem isWord_calls (s : ByteArray) (w : World) (hs : s.size ≤ 9223372036854775807) : Calls Tryd.prog 34 #[.string s] w fun e w' => e = .returned (.bool (isWord s)) ∧ w = w' := by
  have H := Lib.hid (made_calls s 43 44 isEdge isPunct w hs (fun c w => isEdge_calls c w) (fun c w => isPunct_calls c w) enters_isEdge enters_isPunct)
  go_enter Tryd.func34, Tryd.ntmps34
  go_wp2_with fail
  refine H.out.mono ?_
  rintro e w' ⟨rfl, rfl⟩
  go_wp2_with fail
  go_ret
  exact ⟨rfl, rfl⟩
/-- 'judge': OK 0, ErrLarge 2, ErrName 6. -/
def judge (s : ByteArray) (most : Int) (is : Bool) : Int := if most < s.size then 2 else if is then 0 else 6
theorem ret_int {k : IntKind} {a b : Int} {w w' : World} (h : a = b) (hw : w = w') : Ending.returned (.int k a) = .returned (.int k b) ∧ w = w' := by subst h hw; exact ⟨rfl, rfl⟩
set_option maxHeartbeats 400000 in
theorem judge_calls (s : ByteArray) (most : Int) (is : Bool) (w : World) : Calls Tryd.prog 33 #[.string s, .int .i64 most, .bool is] w fun e w' => e = .returned (.int .i64 (judge s most is)) ∧ w = w' := by
  cases is
  all_goals
    go_enter Tryd.func33, Tryd.ntmps33
    go_wp2
    all_goals (go_ret; refine ret_int ?_ rfl; unfold judge; grind)
def checkVal (s : ByteArray) : Int := judge s 63 (decide (s.size = 0) || isWord s)
theorem checkVal_calls (s : ByteArray) (w : World) (hs : s.size ≤ 9223372036854775807) : Calls Tryd.prog 26 #[.string s] w fun e w' => e = .returned (.int .i64 (checkVal s)) ∧ w = w' := by
  have H := Lib.hid (fun w => isWord_calls s w hs)
  have J := Lib.hid (fun is w => judge_calls s 63 is w)
  have hem := toList_isEmpty s
  by_cases h0 : s.size = 0
  · have hemp : s.toList.isEmpty = true := by rw [hem]; simp [h0]
    have M : Hid (judge s 63 true = checkVal s) := by unfold checkVal; simp [h0, Hid]
    clear hem h0
    go_enter Tryd.func26, Tryd.ntmps26
    go_wp2_with fail
    refine (J.out _ _).mono ?_
    rintro e w' ⟨rfl, rfl⟩
    go_wp2_with fail
    go_ret
    exact ret_int M.out rfl
  · have hemp : s.toList.isEmpty = false := by rw [hem]; simp [h0]
    have M : Hid (judge s 63 (isWord s) = checkVal s) := by unfold checkVal; simp [h0, Hid]
    clear hem h0
    go_enter Tryd.func26, Tryd.ntmps26
    go_wp2_with fail
    refine (H.out _).mono ?_
    rintro e w' ⟨rfl, rfl⟩
    go_wp2_with fail
    refine (J.out _ _).mono ?_
    rintro e w' ⟨rfl, rfl⟩
    go_wp2_with fail
    go_ret
    exact ret_int M.out rfl
end Go.Proofs.YtpccgdlgfblaeaaDoor
