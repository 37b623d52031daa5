/- query.holds, all, Match: walked. -/
import Derived.Test.YtpccgdlgfblaeaaDoorHolds
namespace Go.Proofs.YtpccgdlgfblaeaaDoor
open Go.RowKit Go.Proofs
/-- The value of a key. -/
def lookup (labels : List Lab) (key : ByteArray) : Option ByteArray := (labels.find? (fun x => same x.key key)).map (·.val)
/-- Does a part hold? -/
def holdsB (r : Req) (labels : List Lab) : Bool :=
  match lookup labels r.key with
  | some v => if r.kind = 1 then has r.vals v else if r.kind = 2 then !has r.vals v else decide (r.kind = 3)
  | none => if r.kind = 1 then false else if r.kind = 2 then true else !decide (r.kind = 3)
def allB (l : List Req) (labels : List Lab) : Bool := l.all (holdsB · labels)
theorem idxOf_find {α : Type} (p : α → Bool) (l : List α) : (idxOf p l = -1 ∧ l.find? p = none) ∨ ∃ (k : Nat) (x : α), idxOf p l = k ∧ l[k]? = some x ∧ l.find? p = some x := by
  unfold idxOf
  cases h : l.findIdx? p with
  | none => exact .inl ⟨rfl, by rw [List.find?_eq_none]; rw [List.findIdx?_eq_none_iff] at h; intro x hx; rw [h x hx]; simp⟩
  | some i =>
    have h' := List.findIdx?_eq_some_iff_getElem.1 h
    obtain ⟨hi, hp, hb⟩ := h'
    refine .inr ⟨i, l[i], rfl, List.getElem?_eq_getElem hi, ?_⟩
    rw [List.find?_eq_some_iff_getElem]
    exact ⟨hp, i, hi, rfl, fun j hj => by simpa using hb j hj⟩
theorem enters_holdsFn : Enters Tryd.prog 35 := enters_of Tryd.func35 (by kernel_rfl) rfl
set_option maxHeartbeats 1000000 in
theorem holdsFn_calls (x : Lab) (B : Nat) (key : ByteArray) (W : World) (hc : W.cell? ⟨B, 0, none⟩ = some (.string key)) :
    Calls Tryd.prog 35 (#[x.value] ++ #[.pointer (some ⟨B, 0, none⟩)]) W fun e W' => e = .returned (.bool (same x.key key)) ∧ Below W.heap.size W W' := by
  have h2 : (W.alloc (.cells #[.string x.key, .string x.val] 28)).cell? ⟨B, 0, none⟩ = some (.string key) := cell_later ((Below.refl _ W).alloc (Nat.le_refl _) _) hc
  unfold Lab.value same
  go_enter Tryd.func35, Tryd.ntmps35
  go_wp2_with fail
  go_ret
  exact ⟨rfl, (Below.refl _ W).alloc (Nat.le_refl _) _⟩
set_option maxHeartbeats 2000000 in
theorem holds_calls (r : Req) (a : Option Addr) (c : Nat) (labels : List Lab) (a' : Option Addr) (c' : Nat) (w : World) (hv : StrsAt w a r.vals) (hc : r.vals.length ≤ c) (hl : LabsAt w a' labels) (hc' : labels.length ≤ c') :
    Calls Tryd.prog 27 #[r.value a c, .slice a' labels.length c'] w fun e w' => e = .returned (.bool (holdsB r labels)) ∧ Below w.heap.size w w' := by
  obtain ⟨key, kind, vals⟩ := r
  dsimp only at hv hc
  unfold Req.value
  dsimp only
  have B1 : Below w.heap.size w (w.alloc (.cells #[.string key, .int .i64 kind, .slice a vals.length c] 32)) := (Below.refl _ w).alloc (Nat.le_refl _) _
  have I := Lib.hid (indexLab_calls labels a' c' 35 #[.pointer (some ⟨w.heap.size, 0, none⟩)] (fun x => same x.key key) _ (hl.later B1) hc' enters_holdsFn
    (fun x W hb => holdsFn_calls x w.heap.size key W (cell_later hb (cell_new w _ _ 0 _ rfl))))
  have M : Hid (holdsB ⟨key, kind, vals⟩ labels = match lookup labels key with
    | some v => if kind = 1 then has vals v else if kind = 2 then !has vals v else decide (kind = 3)
    | none => if kind = 1 then false else if kind = 2 then true else !decide (kind = 3)) := rfl
  rcases idxOf_find (fun x : Lab => same x.key key) labels with ⟨hi, hf⟩ | ⟨k, x, hi, hk, hf⟩
  · have M2 : Hid (holdsB ⟨key, kind, vals⟩ labels = if kind = 1 then false else if kind = 2 then true else !decide (kind = 3)) := by
      have := M.out; unfold lookup at this; rw [hf] at this; exact this
    rw [hi] at I
    clear M hi hf
    go_enter Tryd.func27, Tryd.ntmps27
    go_wp2_with fail
    refine I.out.mono ?_
    rintro e w1 ⟨rfl, hb⟩
    have d1 := cell_later hb (cell_new w _ _ 1 _ rfl)
    have BB := Lib.hid (B1.trans (hb.mono (by simp)))
    clear hb B1
    go_wp2_with fail
    all_goals try (go_quiet (fail); go_wp2_with fail)
    all_goals
      go_ret
      refine ⟨ret_b ?_, by first | exact BB.out | exact BB.out.trans ⟨rfl, rfl, rfl, Nat.le_refl _, fun _ _ => rfl⟩⟩
      rw [M2.out]; grind
  · have M2 : Hid (holdsB ⟨key, kind, vals⟩ labels = if kind = 1 then has vals x.val else if kind = 2 then !has vals x.val else decide (kind = 3)) := by
      have := M.out; unfold lookup at this; rw [hf] at this; exact this
    rw [hi] at I
    clear M hi hf
    have hkl : k < labels.length := (List.getElem?_eq_some_iff.1 hk).1
    obtain ⟨b, off, rfl, hcs⟩ := hl.2 (by omega)
    obtain ⟨-, c1, -, -⟩ := hcs k x hk
    have HV := Lib.hid hv
    clear hcs hk hv hl
    have hn : ((k : Int) < 0) = False := by simp
    go_enter Tryd.func27, Tryd.ntmps27
    go_wp2_with fail
    refine I.out.mono ?_
    rintro e w1 ⟨rfl, hb⟩
    have d1 := cell_later hb (cell_new w _ _ 1 _ rfl)
    have d2 := cell_later hb (cell_new w _ _ 2 _ rfl)
    have BB := Lib.hid (B1.trans (hb.mono (by simp)))
    have q1 := cell_later BB.out c1
    have C : Hid (∀ n, Calls Tryd.prog 36 #[.slice a vals.length c, .string x.val] (w1.drewN n) fun e w' => e = .returned (.bool (has vals x.val)) ∧ w' = w1.drewN n) := fun n =>
      (contains_calls vals a c x.val (w1.drewN n) ((HV.out.later BB.out).later ⟨rfl, rfl, rfl, Nat.le_refl _, fun _ _ => rfl⟩) hc).mono fun _ _ ⟨he, hw⟩ => ⟨he, hw.symm⟩
    clear hb B1 c1
    go_wp2_with fail
    all_goals try (go_quiet ((go_at_call 36; exact Calls.quiet_of_same (C.out _))); go_wp2_with fail)
    all_goals
      go_ret
      refine ⟨ret_b ?_, by first | exact BB.out | exact BB.out.trans ⟨rfl, rfl, rfl, Nat.le_refl _, fun _ _ => rfl⟩⟩
      rw [M2.out]; grind
theorem allB_no (l : List Req) (labels : List Lab) (k : Nat) (r : Req) (hr : l[k]? = some r) (h : holdsB r labels = false) : allB l labels = false := by
  unfold allB; rw [List.all_eq_false]
  obtain ⟨hk, rfl⟩ := List.getElem?_eq_some_iff.1 hr
  exact ⟨_, List.getElem_mem hk, by rw [h]; simp⟩
theorem allB_yes (l : List Req) (labels : List Lab) (h : ∀ (j : Nat) r, l[j]? = some r → holdsB r labels = true) : allB l labels = true := by
  unfold allB; rw [List.all_eq_true]
  intro r hr
  obtain ⟨k, hk, rfl⟩ := List.mem_iff_getElem.1 hr
  exact h k _ (List.getElem?_eq_getElem hk)
set_option maxHeartbeats 2000000 in
theorem all_calls (l : List Req) (a : Option Addr) (c : Nat) (labels : List Lab) (a' : Option Addr) (c' : Nat) (w : World) (hl : ReqsAt w a l) (hc : l.length ≤ c) (hb : LabsAt w a' labels) (hc' : labels.length ≤ c') :
    Calls Tryd.prog 19 #[.slice a l.length c, .slice a' labels.length c'] w fun e w' => e = .returned (.bool (allB l labels)) ∧ Below w.heap.size w w' := by
  have hlen := hl.1
  have HB := Lib.hid hb
  clear hb
  by_cases hpos : 0 < l.length
  · obtain ⟨b, off, rfl, hcs⟩ := hl.2 hpos
    have HC := Lib.hid hcs
    clear hl hcs
    go_enter Tryd.func19, Tryd.ntmps19
    go_wp2_with fail
    go_loopw [9] (fun i wr => ∃ k : Nat, k ≤ l.length ∧ i = .int .i64 k ∧ Hid (∀ (j : Nat) y, j < k → l[j]? = some y → holdsB y labels = true) ∧ Hid (Below w.heap.size w wr)) (fun i _ => l.length - (intOf i).toNat)
    case atStart => exact ⟨0, Nat.zero_le _, rfl, fun j x hj => absurd hj (Nat.not_lt_zero _), Below.refl _ _⟩
    case round =>
      obtain ⟨k, hk, rfl, A, BB⟩ := hrel
      by_cases hlt : k < l.length
      · obtain ⟨r, hr⟩ : ∃ x, l[k]? = some x := ⟨_, List.getElem?_eq_getElem hlt⟩
        obtain ⟨a1, c1, hat⟩ := HC.out k r hr
        obtain ⟨q0, q1, q2, q3, q4, q5⟩ := hat.later BB.out
        have HR := Lib.hid hr
        have H4 := Lib.hid q4
        clear hr hat q4
        have BX : Below wr.heap.size wr (wr.alloc (.cells #[.string r.key, .int .i64 r.kind, .slice a1 r.vals.length c1] 32)) := (Below.refl _ _).alloc (Nat.le_refl _) _
        have C := Lib.hid (holds_calls r a1 c1 labels a' c' _ (H4.out.later BX) q3 ((HB.out.later BB.out).later BX) hc')
        cases hs : holdsB r labels with
        | true =>
          have S := Lib.hid hs
          rw [hs] at C
          clear hs
          go_wp2_with fail
          refine C.out.mono ?_
          rintro e w1 ⟨rfl, hb⟩
          have BB1 := Lib.hid (below_then BB.out BB.out.size (BX.trans (hb.mono (by simp))))
          clear hb q0 q1 q2 BX
          go_wp2_with fail
          go_roundw
          case rel => exact ⟨k + 1, by omega, by go_num, fun j y hj hy => by
            by_cases e : j = k
            · subst e
              rw [HR.out] at hy
              cases hy
              exact S.out
            · exact A.out j y (by omega) hy, BB1.out⟩
          case measure => simp [intOf]; omega
        | false =>
          have M := Lib.hid (allB_no l labels k r HR.out hs)
          rw [hs] at C
          clear hs
          go_wp2_with fail
          refine C.out.mono ?_
          rintro e w1 ⟨rfl, hb⟩
          have BB1 := Lib.hid (below_then BB.out BB.out.size (BX.trans (hb.mono (by simp))))
          clear hb q0 q1 q2 BX
          go_wp2_with fail
          go_ret
          exact ⟨ret_b M.out.symm, BB1.out⟩
      · have M : Hid (allB l labels = true) := allB_yes l labels (fun j y hy => A.out j y (by have := (List.getElem?_eq_some_iff.1 hy).1; omega) hy)
        go_wp2_with fail
        go_ret
        exact ⟨ret_b M.out.symm, BB.out⟩
  · obtain rfl : l = [] := List.eq_nil_of_length_eq_zero (by omega)
    clear hl
    go_enter Tryd.func19, Tryd.ntmps19
    go_wp2_with fail
    go_loop [9] (fun i => i = .int .i64 0) (fun _ => 0)
    case atStart => rfl
    case round =>
      subst hrel
      go_wp2_with fail
      go_ret
      exact ⟨ret_b rfl, Below.refl _ _⟩
/-- 'Match': does it match, and the error. -/
def matchB (l : List Req) (labels : List Lab) : Bool × Int :=
  if checkReqs l ≠ 0 then (false, checkReqs l) else if checkLabs labels ≠ 0 then (false, checkLabs labels) else (allB l labels, 0)
def RetBE (r : Bool × Int) : Ending := .returned (.tuple #[.bool r.1, .int .i64 r.2])
set_option maxHeartbeats 2000000 in
theorem match_calls (l : List Req) (a : Option Addr) (c : Nat) (labels : List Lab) (a' : Option Addr) (c' : Nat) (w : World) (hl : ReqsAt w a l) (hc : l.length ≤ c) (hb : LabsAt w a' labels) (hc' : labels.length ≤ c') :
    Calls Tryd.prog 4 #[.slice a l.length c, .slice a' labels.length c'] w fun e w' => e = RetBE (matchB l labels) ∧ Below w.heap.size w w' := by
  have C1 := Lib.hid (Check_calls l a c w hl hc)
  have C2 := Lib.hid (fun W (hW : Below w.heap.size w W) => CheckLabels_calls labels a' c' W (hb.later hW) hc')
  have C3 := Lib.hid (fun W (hW : Below w.heap.size w W) => all_calls l a c labels a' c' W (hl.later hW) hc (hb.later hW) hc')
  clear hl hb
  by_cases h1 : checkReqs l = 0
  · rw [h1] at C1
    by_cases h2 : checkLabs labels = 0
    · rw [h2] at C2
      have M : Hid (RetBE (allB l labels, 0) = RetBE (matchB l labels)) := by unfold matchB; simp [h1, h2, Hid]
      rw [← M.out]
      clear h1 h2 M
      go_enter Tryd.func4, Tryd.ntmps4
      go_wp2_with fail
      refine C1.out.mono ?_
      rintro e w1 ⟨rfl, hb⟩
      have B1 := Lib.hid hb
      clear hb
      go_wp2_with fail
      refine (C2.out _ B1.out).mono ?_
      rintro e w2 ⟨rfl, hb⟩
      have B2 := Lib.hid (below_then B1.out B1.out.size hb)
      clear hb
      go_wp2_with fail
      refine (C3.out _ B2.out).mono ?_
      rintro e w3 ⟨rfl, hb⟩
      have B3 := Lib.hid (below_then B2.out B2.out.size hb)
      clear hb
      go_wp2_with fail
      go_ret2
      exact ⟨rfl, B3.out⟩
    · have M : Hid (RetBE (false, checkLabs labels) = RetBE (matchB l labels)) := by unfold matchB; simp [h1, h2, Hid]
      rw [← M.out]
      have hne : (checkLabs labels != 0) = true := by simpa using h2
      clear h1 h2 M
      go_enter Tryd.func4, Tryd.ntmps4
      go_wp2_with fail
      refine C1.out.mono ?_
      rintro e w1 ⟨rfl, hb⟩
      have B1 := Lib.hid hb
      clear hb
      go_wp2_with fail
      refine (C2.out _ B1.out).mono ?_
      rintro e w2 ⟨rfl, hb⟩
      have B2 := Lib.hid (below_then B1.out B1.out.size hb)
      clear hb
      go_wp2_with fail
      go_ret2
      exact ⟨rfl, B2.out⟩
  · have M : Hid (RetBE (false, checkReqs l) = RetBE (matchB l labels)) := by unfold matchB; simp [h1, Hid]
    rw [← M.out]
    have hne : (checkReqs l != 0) = true := by simpa using h1
    have hne2 : (checkReqs l == 0) = false := by simpa using h1
    clear h1 M
    go_enter Tryd.func4, Tryd.ntmps4
    go_wp2_with fail
    refine C1.out.mono ?_
    rintro e w1 ⟨rfl, hb⟩
    have B1 := Lib.hid hb
    clear hb
    go_wp2_with fail
    go_ret2
    exact ⟨rfl, B1.out⟩
end Go.Proofs.YtpccgdlgfblaeaaDoor
