/- query.CheckLabels, walked. -/
import Derived.Test.YtpccgdlgfblaeaaDoorCheck
import Derived.Deep.QuietTactic
import Derived.BigQuiet
namespace Go.Proofs.YtpccgdlgfblaeaaDoor
open Go.RowKit Go.Proofs
def less (a b : ByteArray) : Bool := Op.bytesLess a.toList b.toList
def badLab (prev : Option ByteArray) (x : Lab) : Int :=
  if checkKey x.key ≠ 0 then checkKey x.key
  else if checkVal x.val ≠ 0 then checkVal x.val
  else match prev with
    | none => 0
    | some p => if less p x.key then 0 else 1
def labErrs (l : List Lab) : List Int := List.zipWith badLab (none :: l.map fun x => some x.key) l
/-- 'CheckLabels': are they labels? -/
def checkLabs (l : List Lab) : Int := if 10 < l.length then 2 else firstBad (labErrs l)
theorem labErrs_zero (l : List Lab) (x : Lab) (h : l[0]? = some x) : (labErrs l)[0]? = some (badLab none x) := by
  unfold labErrs; rw [List.getElem?_zipWith, h]; rfl
theorem labErrs_succ (l : List Lab) (k : Nat) (p x : Lab) (hp : l[k]? = some p) (h : l[k + 1]? = some x) : (labErrs l)[k + 1]? = some (badLab (some p.key) x) := by
  unfold labErrs; rw [List.getElem?_zipWith, h, List.getElem?_cons_succ, List.getElem?_map, hp]; rfl
theorem labErrs_len (l : List Lab) : (labErrs l).length = l.length := by unfold labErrs; simp
set_option maxHeartbeats 2000000 in
theorem CheckLabels_calls (l : List Lab) (a : Option Addr) (c : Nat) (w : World) (hl : LabsAt w a l) (hc : l.length ≤ c) :
    Calls Tryd.prog 18 #[.slice a l.length c] w fun e w' => e = .returned (.int .i64 (checkLabs l)) ∧ Below w.heap.size w w' := by
  have hlen := hl.1
  by_cases h8 : 10 < l.length
  · have M : Hid (checkLabs l = 2) := by unfold checkLabs; simp [h8, Hid]
    go_enter Tryd.func18, Tryd.ntmps18
    go_wp2_with fail
    go_ret
    exact ⟨ret_i M.out.symm, Below.refl _ _⟩
  · have M : Hid (checkLabs l = firstBad (labErrs l)) := by unfold checkLabs; simp [h8, Hid]
    have K := Lib.hid (fun s w hk => checkKey_calls s w hk)
    have V := Lib.hid (fun s w hk => checkVal_calls s w hk)
    by_cases hpos : 0 < l.length
    · obtain ⟨b, off, rfl, hcs⟩ := hl.2 hpos
      have HC := Lib.hid hcs
      clear hl hcs
      go_enter Tryd.func18, Tryd.ntmps18
      go_wp2_with fail
      go_loopw [12] (fun i wr => ∃ k : Nat, k ≤ l.length ∧ i = .int .i64 k ∧ Hid (∀ (j : Nat) x, j < k → (labErrs l)[j]? = some x → x = 0) ∧ Hid (Below w.heap.size w wr)) (fun i _ => l.length - (intOf i).toNat)
      case atStart => exact ⟨0, Nat.zero_le _, rfl, fun j x hj => absurd hj (Nat.not_lt_zero _), Below.refl _ _⟩
      case round =>
        obtain ⟨k, hk, rfl, A, BB⟩ := hrel
        by_cases hlt : k < l.length
        · obtain ⟨x, hx⟩ : ∃ x, l[k]? = some x := ⟨_, List.getElem?_eq_getElem hlt⟩
          obtain ⟨c0, c1, s0, s1⟩ := HC.out k x hx
          have q0 := cell_later BB.out c0
          have q1 := cell_later BB.out c1
          have HX := Lib.hid hx
          clear hx c0 c1
          have KX := Lib.hid (fun W => K.out x.key W s0)
          have VX := Lib.hid (fun W => V.out x.val W s1)
          by_cases hk0 : checkKey x.key = 0
          · have H0 := Lib.hid hk0
            have K0 : Hid (∀ W, Calls Tryd.prog 25 #[.string x.key] W fun e w' => e = .returned (.int .i64 0) ∧ Below W.heap.size W w') := by
              intro W; have := KX.out W; rw [hk0] at this; exact this
            clear KX hk0
            by_cases hv0 : checkVal x.val = 0
            · have H1 := Lib.hid hv0
              have V0 : Hid (∀ W, Calls Tryd.prog 26 #[.string x.val] W fun e w' => e = .returned (.int .i64 0) ∧ W = w') := by
                intro W; have := VX.out W; rw [hv0] at this; exact this
              clear VX hv0
              by_cases hz : 0 < k
              · obtain ⟨p, hp⟩ : ∃ x, l[k - 1]? = some x := ⟨_, List.getElem?_eq_getElem (by omega)⟩
                obtain ⟨c0, -, -, -⟩ := HC.out (k - 1) p hp
                have q2 := cell_later BB.out c0
                have HP := Lib.hid hp
                clear hp c0
                have hg : decide (0 < k) = true := by simpa using hz
                have e1 : IntKind.i64.wrap ((k : Int) - 1) = (k : Int) - 1 := IntWalk.i64_in _ (by omega)
                have e2 : (0 : Int) ≤ (k : Int) - 1 := by omega
                have e3 : ((k : Int) - 1).toNat = k - 1 := by omega
                have e4 : (k : Int) - 1 < (l.length : Int) := by omega
                have E1 := Lib.hid e1
                have E3 := Lib.hid e3
                clear e1 e3
                cases hless : less p.key x.key with
                | true =>
                  have hcmp : Op.bytesLess p.key.toList x.key.toList = true := hless
                  go_wp2_with fail
                  refine (K0.out _).mono ?_
                  rintro e w1 ⟨rfl, hb⟩
                  have BB1 := Lib.hid (below_then BB.out (by have := BB.out.size; omega) (((Below.refl _ wr).alloc (Nat.le_refl _) _).trans (hb.mono (by simp))))
                  have d0 := cell_later hb (cell_new wr _ _ 0 _ rfl)
                  have d1 := cell_later hb (cell_new wr _ _ 1 _ rfl)
                  have q3 := cell_later (((Below.refl _ wr).alloc (Nat.le_refl _) _).trans (hb.mono (by simp))) q2
                  clear hb q0 q1 q2
                  go_wp2_with fail
                  refine (V0.out _).mono ?_
                  rintro e w' ⟨rfl, rfl⟩
                  go_wp2_with fail
                  have e1 := E1.out
                  have e3 := E3.out
                  go_quiet (fail)
                  go_wp2_with fail
                  go_roundw
                  case rel =>
                    refine ⟨k + 1, by omega, by go_num, fun j y hj hy => ?_, BB1.out.trans ⟨rfl, rfl, rfl, Nat.le_refl _, fun _ _ => rfl⟩⟩
                    by_cases e : j = k
                    · subst e
                      obtain ⟨m, rfl⟩ : ∃ m, j = m + 1 := ⟨j - 1, by omega⟩
                      rw [labErrs_succ l m p x (by simpa using HP.out) HX.out] at hy
                      simp only [Option.some.injEq] at hy
                      rw [← hy, badLab, if_neg (by rw [H0.out]; simp), if_neg (by rw [H1.out]; simp)]
                      rw [hless]; rfl
                    · exact A.out j y (by omega) hy
                  case measure => simp [intOf]; omega
                | false =>
                  have hcmp : Op.bytesLess p.key.toList x.key.toList = false := hless
                  have M2 : Hid (firstBad (labErrs l) = 1) := by
                    refine firstBad_at _ k _ ?_ (by decide) A.out
                    obtain ⟨m, rfl⟩ : ∃ m, k = m + 1 := ⟨k - 1, by omega⟩
                    rw [labErrs_succ l m p x (by simpa using HP.out) HX.out, badLab, if_neg (by rw [H0.out]; simp), if_neg (by rw [H1.out]; simp)]
                    rw [hless]; rfl
                  go_wp2_with fail
                  refine (K0.out _).mono ?_
                  rintro e w1 ⟨rfl, hb⟩
                  have BB1 := Lib.hid (below_then BB.out (by have := BB.out.size; omega) (((Below.refl _ wr).alloc (Nat.le_refl _) _).trans (hb.mono (by simp))))
                  have d0 := cell_later hb (cell_new wr _ _ 0 _ rfl)
                  have d1 := cell_later hb (cell_new wr _ _ 1 _ rfl)
                  have q3 := cell_later (((Below.refl _ wr).alloc (Nat.le_refl _) _).trans (hb.mono (by simp))) q2
                  clear hb q0 q1 q2
                  go_wp2_with fail
                  refine (V0.out _).mono ?_
                  rintro e w' ⟨rfl, rfl⟩
                  go_wp2_with fail
                  have e1 := E1.out
                  have e3 := E3.out
                  go_quiet (fail)
                  go_wp2_with fail
                  go_ret
                  exact ⟨ret_i (by rw [M.out, M2.out]), BB1.out.trans ⟨rfl, rfl, rfl, Nat.le_refl _, fun _ _ => rfl⟩⟩
              · have hg : decide (0 < k) = false := by simpa using hz
                go_wp2_with fail
                refine (K0.out _).mono ?_
                rintro e w1 ⟨rfl, hb⟩
                have BB1 := Lib.hid (below_then BB.out (by have := BB.out.size; omega) (((Below.refl _ wr).alloc (Nat.le_refl _) _).trans (hb.mono (by simp))))
                have d1 := cell_later hb (cell_new wr _ _ 1 _ rfl)
                clear hb q0 q1
                go_wp2_with fail
                refine (V0.out _).mono ?_
                rintro e w' ⟨rfl, rfl⟩
                go_wp2_with fail
                go_quiet (fail)
                go_wp2_with fail
                go_roundw
                case rel =>
                  refine ⟨k + 1, by omega, by go_num, fun j y hj hy => ?_, BB1.out.trans ⟨rfl, rfl, rfl, Nat.le_refl _, fun _ _ => rfl⟩⟩
                  by_cases e : j = k
                  · subst e
                    obtain rfl : j = 0 := by omega
                    rw [labErrs_zero l x HX.out] at hy
                    simp only [Option.some.injEq] at hy
                    rw [← hy, badLab, if_neg (by rw [H0.out]; simp), if_neg (by rw [H1.out]; simp)]
                  · exact A.out j y (by omega) hy
                case measure => simp [intOf]; omega
            · have M2 : Hid (firstBad (labErrs l) = checkVal x.val) := by
                refine firstBad_at _ k _ ?_ hv0 A.out
                cases k with
                | zero => rw [labErrs_zero l x HX.out, badLab, if_neg (by rw [H0.out]; simp), if_pos hv0]
                | succ k =>
                  obtain ⟨p, hp⟩ : ∃ x, l[k]? = some x := ⟨_, List.getElem?_eq_getElem (by omega)⟩
                  rw [labErrs_succ l k p x hp HX.out, badLab, if_neg (by rw [H0.out]; simp), if_pos hv0]
              have hne : (checkVal x.val != 0) = true := by simpa using hv0
              clear hv0
              go_wp2_with fail
              refine (K0.out _).mono ?_
              rintro e w1 ⟨rfl, hb⟩
              have BB1 := Lib.hid (below_then BB.out (by have := BB.out.size; omega) (((Below.refl _ wr).alloc (Nat.le_refl _) _).trans (hb.mono (by simp))))
              have d1 := cell_later hb (cell_new wr _ _ 1 _ rfl)
              clear hb q0 q1 BB
              go_wp2_with fail
              refine (VX.out _).mono ?_
              rintro e w' ⟨rfl, rfl⟩
              go_wp2_with fail
              go_ret
              exact ⟨ret_i (by rw [M.out, M2.out]), BB1.out⟩
          · have M2 : Hid (firstBad (labErrs l) = checkKey x.key) := by
              refine firstBad_at _ k _ ?_ hk0 A.out
              cases k with
              | zero => rw [labErrs_zero l x HX.out, badLab, if_pos hk0]
              | succ k =>
                obtain ⟨p, hp⟩ : ∃ x, l[k]? = some x := ⟨_, List.getElem?_eq_getElem (by omega)⟩
                rw [labErrs_succ l k p x hp HX.out, badLab, if_pos hk0]
            have hne : (checkKey x.key != 0) = true := by simpa using hk0
            clear hk0
            go_wp2_with fail
            refine (KX.out _).mono ?_
            rintro e w1 ⟨rfl, hb⟩
            have BB1 := Lib.hid (below_then BB.out (by have := BB.out.size; omega) (((Below.refl _ wr).alloc (Nat.le_refl _) _).trans (hb.mono (by simp))))
            clear hb q0 q1 BB
            go_wp2_with fail
            go_ret
            exact ⟨ret_i (by rw [M.out, M2.out]), BB1.out⟩
        · have M2 : Hid (firstBad (labErrs l) = 0) := firstBad_none _ (fun j x hx => A.out j x (by
            have := (List.getElem?_eq_some_iff.1 hx).1; rw [labErrs_len] at this; omega) hx)
          go_wp2_with fail
          go_ret
          exact ⟨ret_i (by rw [M.out, M2.out]), BB.out⟩
    · obtain rfl : l = [] := List.eq_nil_of_length_eq_zero (by omega)
      clear K V hl
      go_enter Tryd.func18, Tryd.ntmps18
      go_wp2_with fail
      go_loop [12] (fun i => i = .int .i64 0) (fun _ => 0)
      case atStart => rfl
      case round =>
        subst hrel
        go_wp2_with fail
        go_ret
        exact ⟨ret_i (by rw [M.out]; rfl), Below.refl _ _⟩
end Go.Proofs.YtpccgdlgfblaeaaDoor
