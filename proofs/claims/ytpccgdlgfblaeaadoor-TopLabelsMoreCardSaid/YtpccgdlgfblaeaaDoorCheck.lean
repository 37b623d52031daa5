/- query.check, Check, CheckLabels, walked. -/
import Derived.Test.YtpccgdlgfblaeaaDoorCKey
import Derived.Test.YtpccgdlgfblaeaaDoorMem
namespace Go.Proofs.YtpccgdlgfblaeaaDoor
open Go.RowKit Go.Proofs
/-- The first that isn't OK. -/
def firstBad : List Int → Int
  | [] => 0
  | e :: l => if e = 0 then firstBad l else e
/-- 'check' of one part. -/
def checkReq (r : Req) : Int :=
  if checkKey r.key ≠ 0 then checkKey r.key
  else if r.kind < 1 ∨ 4 < r.kind ∨ ((r.kind = 1 ∨ r.kind = 2) ↔ r.vals.length = 0) then 1
  else if 8 < r.vals.length then 2
  else firstBad (r.vals.map checkVal)
theorem firstBad_at (l : List Int) (k : Nat) (e : Int) (h : l[k]? = some e) (he : e ≠ 0) (hb : ∀ (j : Nat) x, j < k → l[j]? = some x → x = 0) : firstBad l = e := by
  induction l generalizing k with
  | nil => simp at h
  | cons a l ih =>
    cases k with
    | zero => simp at h; subst h; simp [firstBad, he]
    | succ k =>
      have h0 : a = 0 := hb 0 a (by omega) rfl
      simp only [firstBad, h0, if_true]
      exact ih k (by simpa using h) (fun j x hj hx => hb (j + 1) x (by omega) (by simpa using hx))
theorem firstBad_none (l : List Int) (hb : ∀ (j : Nat) x, l[j]? = some x → x = 0) : firstBad l = 0 := by
  induction l with
  | nil => rfl
  | cons a l ih =>
    have h0 : a = 0 := hb 0 a rfl
    simp only [firstBad, h0, if_true]
    exact ih (fun j x hx => hb (j + 1) x (by simpa using hx))
theorem ret_i {k : IntKind} {a b : Int} (h : a = b) : Ending.returned (.int k a) = .returned (.int k b) := by rw [h]
set_option maxHeartbeats 2000000 in
theorem check_calls (r : Req) (a : Option Addr) (c : Nat) (w : World) (hk : small r.key) (hv : StrsAt w a r.vals) (hc : r.vals.length ≤ c) :
    Calls Tryd.prog 24 #[r.value a c] w fun e w' => e = .returned (.int .i64 (checkReq r)) ∧ Below w.heap.size w w' := by
  obtain ⟨key, kind, vals⟩ := r
  dsimp only at hk hv hc
  unfold Req.value
  dsimp only
  have K := Lib.hid (fun w => checkKey_calls key w hk)
  by_cases h0 : checkKey key = 0
  · have V := Lib.hid (fun x hx w => checkVal_calls x w hx)
    have K0 := Lib.hid (fun w => by have := K.out w; rw [h0] at this; exact this : ∀ w, Calls Tryd.prog 25 #[.string key] w fun e w' => e = .returned (.int .i64 0) ∧ Below w.heap.size w w')
    have H0 := Lib.hid h0
    have hlen := hv.1
    by_cases hpos : 0 < vals.length
    · obtain ⟨b, off, rfl, hcs⟩ := hv.2 hpos
      have HC := Lib.hid hcs
      clear h0 K hv hcs
      go_enter Tryd.func24, Tryd.ntmps24
      go_wp2_with fail
      all_goals
        refine (K0.out _).mono ?_
        rintro e w1 ⟨rfl, hb⟩
        have d1 := cell_later hb (cell_new w _ _ 1 _ rfl)
        have d2 := cell_later hb (cell_new w _ _ 2 _ rfl)
        have BB := Lib.hid (((Below.refl _ w).alloc (Nat.le_refl _) _).trans (hb.mono (by simp)))
        clear hb
        go_wp2_with fail
      all_goals try (go_ret; refine ⟨ret_i ?_, BB.out⟩; simp only [checkReq, H0.out]; grind)
      all_goals
        clear d1 d2
        go_loop [47] (fun i => ∃ k : Nat, k ≤ vals.length ∧ i = .int .i64 k ∧ Hid (∀ (j : Nat) x, j < k → (vals.map checkVal)[j]? = some x → x = 0)) (fun i => vals.length - (intOf i).toNat)
        case atStart => exact ⟨0, Nat.zero_le _, rfl, fun j x hj => absurd hj (Nat.not_lt_zero _)⟩
        case round =>
          obtain ⟨k, hk, rfl, A⟩ := hrel
          by_cases hlt : k < vals.length
          · obtain ⟨x, hx⟩ : ∃ x, vals[k]? = some x := ⟨_, List.getElem?_eq_getElem hlt⟩
            obtain ⟨c0, s0⟩ := HC.out k x hx
            have c1 := cell_later BB.out c0
            have HX := Lib.hid hx
            have VX := Lib.hid (V.out x s0)
            clear c0 hx s0
            by_cases hv0 : checkVal x = 0
            · have H2 := Lib.hid hv0
              have V0 : Hid (∀ w, Calls Tryd.prog 26 #[.string x] w fun e w' => e = .returned (.int .i64 0) ∧ w = w') := by
                intro w; have := VX.out w; rw [hv0] at this; exact this
              clear hv0 VX
              go_wp2_with fail
              refine (V0.out _).mono ?_
              rintro e w' ⟨rfl, rfl⟩
              go_wp2_with fail
              go_round
              case rel => exact ⟨k + 1, by omega, by go_num, fun j y hj hy => by
                by_cases e : j = k
                · subst e
                  rw [List.getElem?_map, HX.out] at hy
                  simp at hy
                  rw [← hy, H2.out]
                · exact A.out j y (by omega) hy⟩
              case measure => simp [intOf]; omega
            · have M2 : Hid (firstBad (vals.map checkVal) = checkVal x) := firstBad_at _ k _ (by rw [List.getElem?_map, HX.out]; rfl) hv0 A.out
              have hne : (checkVal x != 0) = true := by simpa using hv0
              clear hv0
              go_wp2_with fail
              refine (VX.out _).mono ?_
              rintro e w' ⟨rfl, rfl⟩
              go_wp2_with fail
              go_ret
              refine ⟨ret_i ?_, BB.out⟩
              rw [← M2.out]
              simp only [checkReq, H0.out]; grind
          · have M2 : Hid (firstBad (vals.map checkVal) = 0) := firstBad_none _ (fun j x hx => A.out j x (by
              have := (List.getElem?_eq_some_iff.1 hx).1; simp at this; omega) hx)
            go_wp2_with fail
            go_ret
            refine ⟨ret_i ?_, BB.out⟩
            simp only [checkReq, H0.out, M2.out]; grind
    · obtain rfl : vals = [] := List.eq_nil_of_length_eq_zero (by omega)
      clear h0 K hv
      go_enter Tryd.func24, Tryd.ntmps24
      go_wp2_with fail
      all_goals
        refine (K0.out _).mono ?_
        rintro e w1 ⟨rfl, hb⟩
        have d1 := cell_later hb (cell_new w _ _ 1 _ rfl)
        have d2 := cell_later hb (cell_new w _ _ 2 _ rfl)
        have BB := Lib.hid (((Below.refl _ w).alloc (Nat.le_refl _) _).trans (hb.mono (by simp)))
        clear hb
        go_wp2_with fail
      all_goals try (go_ret; refine ⟨ret_i ?_, BB.out⟩; simp only [checkReq, H0.out, List.length_nil]; grind)
      all_goals
        clear d1 d2
        go_loop [47] (fun i => i = .int .i64 0) (fun _ => 0)
        case atStart => rfl
        case round =>
          subst hrel
          go_wp2_with fail
          go_ret
          refine ⟨ret_i ?_, BB.out⟩
          simp only [checkReq, H0.out, List.length_nil, List.map_nil, firstBad]; grind
  · have M : Hid (checkReq ⟨key, kind, vals⟩ = checkKey key) := by unfold checkReq; simp [h0, Hid]
    go_enter Tryd.func24, Tryd.ntmps24
    go_wp2_with fail
    all_goals
      refine (K.out _).mono ?_
      rintro e w1 ⟨rfl, hb⟩
      have d1 := cell_later hb (cell_new w _ _ 1 _ rfl)
      have d2 := cell_later hb (cell_new w _ _ 2 _ rfl)
      have BB := Lib.hid (((Below.refl _ w).alloc (Nat.le_refl _) _).trans (hb.mono (by simp)))
      clear hb
      go_wp2_with fail
      go_ret
      exact ⟨ret_i M.out.symm, BB.out⟩
/-- 'Check': are they a selector? -/
def checkReqs (l : List Req) : Int := if 8 < l.length then 2 else firstBad (l.map checkReq)
set_option maxHeartbeats 2000000 in
theorem Check_calls (l : List Req) (a : Option Addr) (c : Nat) (w : World) (hl : ReqsAt w a l) (hc : l.length ≤ c) :
    Calls Tryd.prog 17 #[.slice a l.length c] w fun e w' => e = .returned (.int .i64 (checkReqs l)) ∧ Below w.heap.size w w' := by
  have hlen := hl.1
  by_cases h8 : 8 < l.length
  · have M : Hid (checkReqs l = 2) := by unfold checkReqs; simp [h8, Hid]
    go_enter Tryd.func17, Tryd.ntmps17
    go_wp2_with fail
    go_ret
    exact ⟨ret_i M.out.symm, Below.refl _ _⟩
  · have M : Hid (checkReqs l = firstBad (l.map checkReq)) := by unfold checkReqs; simp [h8, Hid]
    have C := Lib.hid (fun r a c w hk hv hc => check_calls r a c w hk hv hc)
    by_cases hpos : 0 < l.length
    · obtain ⟨b, off, rfl, hcs⟩ := hl.2 hpos
      have HC := Lib.hid hcs
      clear hl hcs
      go_enter Tryd.func17, Tryd.ntmps17
      go_wp2_with fail
      go_loopw [11] (fun i wr => ∃ k : Nat, k ≤ l.length ∧ i = .int .i64 k ∧ Hid (∀ (j : Nat) x, j < k → (l.map checkReq)[j]? = some x → x = 0) ∧ Hid (Below w.heap.size w wr)) (fun i _ => l.length - (intOf i).toNat)
      case atStart => exact ⟨0, Nat.zero_le _, rfl, fun j x hj => absurd hj (Nat.not_lt_zero _), Below.refl _ _⟩
      case round =>
        obtain ⟨k, hk, rfl, A, BB⟩ := hrel
        by_cases hlt : k < l.length
        · obtain ⟨r, hr⟩ : ∃ x, l[k]? = some x := ⟨_, List.getElem?_eq_getElem hlt⟩
          obtain ⟨a', c', hat⟩ := HC.out k r hr
          have hat1 := hat.later BB.out
          obtain ⟨q0, q1, q2, q3, q4, q5⟩ := hat1
          have HR := Lib.hid hr
          have H4 := Lib.hid q4
          clear hr hat q4
          have CR := Lib.hid (fun W (hW : Below wr.heap.size wr W) => C.out r a' c' W q5 (H4.out.later hW) q3)
          by_cases hv0 : checkReq r = 0
          · have H2 := Lib.hid hv0
            have C0 : Hid (∀ W, Below wr.heap.size wr W → Calls Tryd.prog 24 #[r.value a' c'] W fun e w' => e = .returned (.int .i64 0) ∧ Below W.heap.size W w') := by
              intro W hW; have := CR.out W hW; rw [hv0] at this; exact this
            clear hv0 CR
            go_wp2_with fail
            refine (C0.out _ (by exact (Below.refl _ _).alloc (Nat.le_refl _) _)).mono ?_
            rintro e w1 ⟨rfl, hb⟩
            have BB1 := Lib.hid (below_then BB.out (by have := BB.out.size; omega) (((Below.refl _ wr).alloc (Nat.le_refl _) _).trans (hb.mono (by simp))))
            clear hb q0 q1 q2 BB
            go_wp2_with fail
            go_roundw
            case rel => exact ⟨k + 1, by omega, by go_num, fun j y hj hy => by
              by_cases e : j = k
              · subst e
                rw [List.getElem?_map, HR.out] at hy
                simp at hy
                rw [← hy, H2.out]
              · exact A.out j y (by omega) hy, BB1⟩
            case measure => simp [intOf]; omega
          · have M2 : Hid (firstBad (l.map checkReq) = checkReq r) := firstBad_at _ k _ (by rw [List.getElem?_map, HR.out]; rfl) hv0 A.out
            have hne : (checkReq r != 0) = true := by simpa using hv0
            clear hv0
            go_wp2_with fail
            refine (CR.out _ (by exact (Below.refl _ _).alloc (Nat.le_refl _) _)).mono ?_
            rintro e w1 ⟨rfl, hb⟩
            have BB1 := Lib.hid (below_then BB.out (by have := BB.out.size; omega) (((Below.refl _ wr).alloc (Nat.le_refl _) _).trans (hb.mono (by simp))))
            clear hb q0 q1 q2 BB
            go_wp2_with fail
            go_ret
            exact ⟨ret_i (by rw [M.out, M2.out]), BB1.out⟩
        · have M2 : Hid (firstBad (l.map checkReq) = 0) := firstBad_none _ (fun j x hx => A.out j x (by
            have := (List.getElem?_eq_some_iff.1 hx).1; simp at this; omega) hx)
          go_wp2_with fail
          go_ret
          exact ⟨ret_i (by rw [M.out, M2.out]), BB.out⟩
    · obtain rfl : l = [] := List.eq_nil_of_length_eq_zero (by omega)
      clear C hl
      go_enter Tryd.func17, Tryd.ntmps17
      go_wp2_with fail
      go_loop [11] (fun i => i = .int .i64 0) (fun _ => 0)
      case atStart => rfl
      case round =>
        subst hrel
        go_wp2_with fail
        go_ret
        exact ⟨ret_i (by rw [M.out]; rfl), Below.refl _ _⟩
end Go.Proofs.YtpccgdlgfblaeaaDoor
