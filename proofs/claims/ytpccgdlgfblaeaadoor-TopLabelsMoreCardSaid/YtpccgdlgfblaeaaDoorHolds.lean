/- slices.Index, Contains at strings; slices.IndexFunc at labels; query.holds, all, Match: walked. -/
import Derived.Test.YtpccgdlgfblaeaaDoorLabels
namespace Go.Proofs.YtpccgdlgfblaeaaDoor
open Go.RowKit Go.Proofs
def same (a b : ByteArray) : Bool := a.toList == b.toList
theorem same_iff (a b : ByteArray) : same a b = true ↔ a = b := by
  unfold same
  rw [beq_iff_eq, Lib.toList_data, Lib.toList_data]
  constructor
  · intro h; cases a; cases b; simp at h; rw [h]
  · intro h; rw [h]
/-- The first place of one that p takes; -1 without one. -/
def idxOf {α : Type} (p : α → Bool) (l : List α) : Int := match l.findIdx? p with | some i => (i : Int) | none => -1
theorem idxOf_hit {α : Type} (p : α → Bool) (l : List α) (k : Nat) (x : α) (hx : l[k]? = some x) (hp : p x = true) (hb : ∀ (j : Nat) y, j < k → l[j]? = some y → p y = false) : idxOf p l = k := by
  have : l.findIdx? p = some k := by
    obtain ⟨hk, rfl⟩ := List.getElem?_eq_some_iff.1 hx
    rw [List.findIdx?_eq_some_iff_getElem]
    exact ⟨hk, hp, fun j hj => by simpa using hb j _ hj (List.getElem?_eq_getElem (by omega))⟩
  unfold idxOf; rw [this]
theorem idxOf_miss {α : Type} (p : α → Bool) (l : List α) (hb : ∀ (j : Nat) y, l[j]? = some y → p y = false) : idxOf p l = -1 := by
  have : l.findIdx? p = none := by
    rw [List.findIdx?_eq_none_iff]
    intro x hx
    obtain ⟨j, hj, rfl⟩ := List.mem_iff_getElem.1 hx
    exact hb j _ (List.getElem?_eq_getElem hj)
  unfold idxOf; rw [this]
set_option maxHeartbeats 2000000 in
theorem index_calls (l : List ByteArray) (a : Option Addr) (c : Nat) (v : ByteArray) (w : World) (hl : StrsAt w a l) (hc : l.length ≤ c) :
    Calls Tryd.prog 45 #[.slice a l.length c, .string v] w fun e w' => e = .returned (.int .i64 (idxOf (same · v) l)) ∧ w = w' := by
  have hlen := hl.1
  by_cases hpos : 0 < l.length
  · obtain ⟨b, off, rfl, hcs⟩ := hl.2 hpos
    have HC := Lib.hid hcs
    clear hl hcs
    go_enter Tryd.func45, Tryd.ntmps45
    go_wp2_with fail
    go_loop [8] (fun i => ∃ k : Nat, k ≤ l.length ∧ i = .int .i64 k ∧ Hid (∀ (j : Nat) y, j < k → l[j]? = some y → same y v = false)) (fun i => l.length - (intOf i).toNat)
    case atStart => exact ⟨0, Nat.zero_le _, rfl, fun j x hj => absurd hj (Nat.not_lt_zero _)⟩
    case round =>
      obtain ⟨k, hk, rfl, A⟩ := hrel
      by_cases hlt : k < l.length
      · obtain ⟨x, hx⟩ : ∃ x, l[k]? = some x := ⟨_, List.getElem?_eq_getElem hlt⟩
        obtain ⟨c0, s0⟩ := HC.out k x hx
        have HX := Lib.hid hx
        clear hx
        cases hs : same v x with
        | true =>
          have hs1 : (v.toList == x.toList) = true := hs
          have M : Hid (idxOf (same · v) l = k) := idxOf_hit _ l k x HX.out (by rw [same_iff] at hs ⊢; exact hs.symm) A.out
          go_wp2_with fail
          go_ret
          exact ret_int M.out.symm rfl
        | false =>
          have hs1 : (v.toList == x.toList) = false := hs
          go_wp2_with fail
          go_round
          case rel => exact ⟨k + 1, by omega, by go_num, fun j y hj hy => by
            by_cases e : j = k
            · subst e
              rw [HX.out] at hy
              cases hy
              rw [Bool.eq_false_iff] at hs ⊢
              intro h; apply hs
              rw [same_iff] at h ⊢; exact h.symm
            · exact A.out j y (by omega) hy⟩
          case measure => simp [intOf]; omega
      · go_wp2_with fail
        go_ret
        exact ret_int (by rw [idxOf_miss]; exact fun j y hy => A.out j y (by have := (List.getElem?_eq_some_iff.1 hy).1; omega) hy) rfl
  · obtain rfl : l = [] := List.eq_nil_of_length_eq_zero (by omega)
    clear hl
    go_enter Tryd.func45, Tryd.ntmps45
    go_wp2_with fail
    go_loop [8] (fun i => i = .int .i64 0) (fun _ => 0)
    case atStart => rfl
    case round =>
      subst hrel
      go_wp2_with fail
      go_ret
      exact ret_int rfl rfl
/-- 'slices.Contains' at strings. -/
def has (l : List ByteArray) (v : ByteArray) : Bool := l.any (same · v)
theorem idxOf_any {α : Type} (p : α → Bool) (l : List α) : decide (0 ≤ idxOf p l) = l.any p := by
  unfold idxOf
  cases h : l.findIdx? p with
  | none =>
    rw [List.findIdx?_eq_none_iff] at h
    have : l.any p = false := by rw [List.any_eq_false]; intro x hx; rw [h x hx]; simp
    rw [this]; simp
  | some i =>
    rw [List.findIdx?_eq_some_iff_getElem] at h
    obtain ⟨hi, hp, _⟩ := h
    have : l.any p = true := List.any_eq_true.2 ⟨_, List.getElem_mem hi, hp⟩
    rw [this]; simp
theorem ret_b {a b : Bool} (h : a = b) : Ending.returned (.bool a) = .returned (.bool b) := by rw [h]
set_option maxHeartbeats 2000000 in
theorem contains_calls (l : List ByteArray) (a : Option Addr) (c : Nat) (v : ByteArray) (w : World) (hl : StrsAt w a l) (hc : l.length ≤ c) :
    Calls Tryd.prog 36 #[.slice a l.length c, .string v] w fun e w' => e = .returned (.bool (has l v)) ∧ w = w' := by
  have I := Lib.hid (index_calls l a c v w hl hc)
  have M : Hid (decide (0 ≤ idxOf (same · v) l) = has l v) := idxOf_any _ l
  generalize idxOf (same · v) l = i at I M
  go_enter Tryd.func36, Tryd.ntmps36
  go_wp2_with fail
  refine I.out.mono ?_
  rintro e w' ⟨rfl, rfl⟩
  go_wp2_with fail
  go_ret
  exact ⟨ret_b M.out, rfl⟩
set_option maxHeartbeats 2000000 in
/-- slices.IndexFunc at labels: whatever function value that says p. -/
theorem indexLab_calls (l : List Lab) (a : Option Addr) (c : Nat) (g : Nat) (lb : Array Value) (p : Lab → Bool) (w : World) (hl : LabsAt w a l) (hc : l.length ≤ c) (eg : Enters Tryd.prog g)
    (hp : ∀ x W, Below w.heap.size w W → Calls Tryd.prog g (#[x.value] ++ lb) W fun e W' => e = .returned (.bool (p x)) ∧ Below W.heap.size W W') :
    Calls Tryd.prog 9 #[.slice a l.length c, .func (.func g) #[] lb] w fun e w' => e = .returned (.int .i64 (idxOf p l)) ∧ Below w.heap.size w w' := by
  have hlen := hl.1
  have HP := Lib.hid hp
  clear hp
  unfold Enters at eg
  by_cases hpos : 0 < l.length
  · obtain ⟨b, off, rfl, hcs⟩ := hl.2 hpos
    have HC := Lib.hid hcs
    clear hl hcs
    go_enter Tryd.func9, Tryd.ntmps9
    go_wp2_with fail
    go_loopw [8] (fun i wr => ∃ k : Nat, k ≤ l.length ∧ i = .int .i64 k ∧ Hid (∀ (j : Nat) y, j < k → l[j]? = some y → p y = false) ∧ Hid (Below w.heap.size w wr)) (fun i _ => l.length - (intOf i).toNat)
    case atStart => exact ⟨0, Nat.zero_le _, rfl, fun j x hj => absurd hj (Nat.not_lt_zero _), Below.refl _ _⟩
    case round =>
      obtain ⟨k, hk, rfl, A, BB⟩ := hrel
      by_cases hlt : k < l.length
      · obtain ⟨x, hx⟩ : ∃ x, l[k]? = some x := ⟨_, List.getElem?_eq_getElem hlt⟩
        obtain ⟨c0, c1, s0, s1⟩ := HC.out k x hx
        have q0 := cell_later BB.out c0
        have q1 := cell_later BB.out c1
        have HX := Lib.hid hx
        clear hx c0 c1
        cases hs : p x with
        | true =>
          have M : Hid (idxOf p l = k) := idxOf_hit _ l k x HX.out hs A.out
          have C : Hid (Calls Tryd.prog g (#[x.value] ++ lb) wr fun e W' => e = .returned (.bool true) ∧ Below wr.heap.size wr W') := by
            have := HP.out x wr BB.out; rw [hs] at this; exact this
          clear hs
          go_wp2_with fail
          refine C.out.mono ?_
          rintro e w1 ⟨rfl, hb⟩
          have BB1 := Lib.hid (below_then BB.out BB.out.size hb)
          clear hb q0 q1
          go_wp2_with fail
          go_ret
          exact ⟨ret_i M.out.symm, BB1.out⟩
        | false =>
          have S := Lib.hid hs
          have C : Hid (Calls Tryd.prog g (#[x.value] ++ lb) wr fun e W' => e = .returned (.bool false) ∧ Below wr.heap.size wr W') := by
            have := HP.out x wr BB.out; rw [hs] at this; exact this
          clear hs
          go_wp2_with fail
          refine C.out.mono ?_
          rintro e w1 ⟨rfl, hb⟩
          have BB1 := Lib.hid (below_then BB.out BB.out.size hb)
          clear hb q0 q1
          go_wp2_with fail
          go_roundw
          case rel => exact ⟨k + 1, by omega, by go_num, fun j y hj hy => by
            by_cases e : j = k
            · subst e
              rw [HX.out] at hy
              cases hy
              exact S.out
            · exact A.out j y (by omega) hy, BB1.out⟩
          case measure => simp [intOf]; omega
      · go_wp2_with fail
        go_ret
        exact ⟨ret_i (by rw [idxOf_miss]; exact fun j y hy => A.out j y (by have := (List.getElem?_eq_some_iff.1 hy).1; omega) hy), BB.out⟩
  · obtain rfl : l = [] := List.eq_nil_of_length_eq_zero (by omega)
    clear hl
    go_enter Tryd.func9, Tryd.ntmps9
    go_wp2_with fail
    go_loop [8] (fun i => i = .int .i64 0) (fun _ => 0)
    case atStart => rfl
    case round =>
      subst hrel
      go_wp2_with fail
      go_ret
      exact ⟨ret_i rfl, Below.refl _ _⟩
end Go.Proofs.YtpccgdlgfblaeaaDoor
