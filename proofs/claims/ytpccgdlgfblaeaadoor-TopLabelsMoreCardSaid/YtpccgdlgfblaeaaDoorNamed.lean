/- TopLabelsMore's inner functions, walked: which labels a selector's parts name. -/
import Derived.Test.YtpccgdlgfblaeaaDoorInsert
import Derived.Test.YtpccgdlgfblaeaaDoorSearch
namespace Go.Proofs.YtpccgdlgfblaeaaDoor
open Go.RowKit Go.Proofs
theorem pick_calls (x : Int) (n : Nat) (w : World) (h0 : 0 < n) (hn : n ≤ 9223372036854775807) : Calls Tryd.prog 12 #[.int .i64 x, .int .i64 n] w fun e w' => (∃ k : Nat, k < n ∧ e = .returned (.int .i64 k)) ∧ w' = w := by
  have h1 : IntKind.u64.wrap (n : Int) = n := by rw [IntKind.wrap_u64]; omega
  have h2 : ¬ ((n : Int) = 0) := by omega
  have h3 : 0 ≤ IntKind.u64.wrap x := by rw [IntKind.wrap_u64]; omega
  have H3 := Lib.hid h3
  have hk : Hid (∃ k : Nat, k < n ∧ wrap64 ((IntKind.u64.wrap x).tmod n) = k) := by
    refine ⟨((IntKind.u64.wrap x).tmod n).toNat, ?_, ?_⟩
    all_goals
      have a1 := Int.tmod_nonneg (n : Int) h3
      have a2 := Int.tmod_lt_of_pos (IntKind.u64.wrap x) (show (0 : Int) < n by omega)
    · omega
    · unfold wrap64; omega
  clear h3 h0
  go_enter Tryd.func12, Tryd.ntmps12
  go_wp2_with fail
  go_ret
  obtain ⟨k, h, e⟩ := hk.out
  exact ⟨⟨k, h, ret_i e⟩, rfl⟩
theorem enters_keyFn : Enters Tryd.prog 7 := enters_of Tryd.func7 (by kernel_rfl) rfl
set_option maxHeartbeats 1000000 in
theorem keyFn_calls (r : Req) (a : Option Addr) (c : Nat) (key : ByteArray) (B : Nat) (W : World) (h : W.cell? ⟨B, 0, none⟩ = some (.string key)) :
    Calls Tryd.prog 7 (#[r.value a c] ++ #[.pointer (some ⟨B, 0, none⟩)]) W fun e W' => e = .returned (.bool (same r.key key)) ∧ Below W.heap.size W W' := by
  unfold Req.value same
  have h' := cell_later (Below.alloc (Below.refl _ W) (Nat.le_refl _) (.cells #[.string r.key, .int .i64 r.kind, .slice a r.vals.length c] 32)) h
  go_enter Tryd.func7, Tryd.ntmps7
  go_wp2_with fail
  go_ret
  exact ⟨rfl, (Below.refl _ W).alloc (Nat.le_refl _) _⟩
set_option maxHeartbeats 2000000 in
/-- slices.IndexFunc at parts: whatever function value that says p. -/
theorem indexReq_calls (l : List Req) (a : Option Addr) (c : Nat) (g : Nat) (lb : Array Value) (p : Req → Bool) (w : World) (hl : ReqsAt w a l) (hc : l.length ≤ c) (eg : Enters Tryd.prog g)
    (hp : ∀ x a c W, Below w.heap.size w W → Calls Tryd.prog g (#[x.value a c] ++ lb) W fun e W' => e = .returned (.bool (p x)) ∧ Below W.heap.size W W') :
    Calls Tryd.prog 20 #[.slice a l.length c, .func (.func g) #[] lb] w fun e w' => e = .returned (.int .i64 (idxOf p l)) ∧ Below w.heap.size w w' := by
  have hlen := hl.1
  have HP := Lib.hid hp
  clear hp
  unfold Enters at eg
  by_cases hpos : 0 < l.length
  · obtain ⟨b, off, rfl, hcs⟩ := hl.2 hpos
    have HC := Lib.hid hcs
    clear hl hcs
    go_enter Tryd.func20, Tryd.ntmps20
    go_wp2_with fail
    go_loopw [8] (fun i wr => ∃ k : Nat, k ≤ l.length ∧ i = .int .i64 k ∧ Hid (∀ (j : Nat) y, j < k → l[j]? = some y → p y = false) ∧ Hid (Below w.heap.size w wr)) (fun i _ => l.length - (intOf i).toNat)
    case atStart => exact ⟨0, Nat.zero_le _, rfl, fun j x hj => absurd hj (Nat.not_lt_zero _), Below.refl _ _⟩
    case round =>
      obtain ⟨k, hk, rfl, A, BB⟩ := hrel
      by_cases hlt : k < l.length
      · obtain ⟨x, hx⟩ : ∃ x, l[k]? = some x := ⟨_, List.getElem?_eq_getElem hlt⟩
        obtain ⟨a1, c1, hat⟩ := HC.out k x hx
        obtain ⟨q0, q1, q2, q3, q4, q5⟩ := hat.later BB.out
        have HX := Lib.hid hx
        clear hx hat q4
        cases hs : p x with
        | true =>
          have M : Hid (idxOf p l = k) := idxOf_hit _ l k x HX.out hs A.out
          have C : Hid (Calls Tryd.prog g (#[x.value a1 c1] ++ lb) wr fun e W' => e = .returned (.bool true) ∧ Below wr.heap.size wr W') := by
            have := HP.out x a1 c1 wr BB.out; rw [hs] at this; exact this
          clear hs
          go_wp2_with fail
          refine C.out.mono ?_
          rintro e w1 ⟨rfl, hb⟩
          have BB1 := Lib.hid (below_then BB.out BB.out.size hb)
          clear hb q0 q1 q2
          go_wp2_with fail
          go_ret
          exact ⟨ret_i M.out.symm, BB1.out⟩
        | false =>
          have S := Lib.hid hs
          have C : Hid (Calls Tryd.prog g (#[x.value a1 c1] ++ lb) wr fun e W' => e = .returned (.bool false) ∧ Below wr.heap.size wr W') := by
            have := HP.out x a1 c1 wr BB.out; rw [hs] at this; exact this
          clear hs
          go_wp2_with fail
          refine C.out.mono ?_
          rintro e w1 ⟨rfl, hb⟩
          have BB1 := Lib.hid (below_then BB.out BB.out.size hb)
          clear hb q0 q1 q2
          go_wp2_with fail
          go_roundw
          case rel => exact ⟨k + 1, by omega, by go_num, fun j y hj hy => by
            by_cases e : j = k
            · subst e
              rw [HX.out] at hy
              cases hy
              exact S.out
            · exact A.out j y (by omega) hy, BB1.out⟩
          case measure => simp [intOf]; omega
      · go_wp2_with fail
        go_ret
        exact ⟨ret_i (by rw [idxOf_miss]; exact fun j y hy => A.out j y (by have := (List.getElem?_eq_some_iff.1 hy).1; omega) hy), BB.out⟩
  · obtain rfl : l = [] := List.eq_nil_of_length_eq_zero (by omega)
    clear hl
    go_enter Tryd.func20, Tryd.ntmps20
    go_wp2_with fail
    go_loop [8] (fun i => i = .int .i64 0) (fun _ => 0)
    case atStart => rfl
    case round =>
      subst hrel
      go_wp2_with fail
      go_ret
      exact ⟨ret_i rfl, Below.refl _ _⟩
set_option maxHeartbeats 1000000 in
theorem containsReq_calls (l : List Req) (a : Option Addr) (c : Nat) (g : Nat) (lb : Array Value) (p : Req → Bool) (w : World) (hl : ReqsAt w a l) (hc : l.length ≤ c) (eg : Enters Tryd.prog g)
    (hp : ∀ x a c W, Below w.heap.size w W → Calls Tryd.prog g (#[x.value a c] ++ lb) W fun e W' => e = .returned (.bool (p x)) ∧ Below W.heap.size W W') :
    Calls Tryd.prog 6 #[.slice a l.length c, .func (.func g) #[] lb] w fun e w' => e = .returned (.bool (l.any p)) ∧ Below w.heap.size w w' := by
  have I := Lib.hid (indexReq_calls l a c g lb p w hl hc eg hp)
  have M : Hid (decide (0 ≤ idxOf p l) = l.any p) := idxOf_any _ l
  clear hp
  generalize idxOf p l = i at I M
  go_enter Tryd.func6, Tryd.ntmps6
  go_wp2_with fail
  refine I.out.mono ?_
  rintro e w' ⟨rfl, hb⟩
  have HB := Lib.hid hb
  clear hb
  go_wp2_with fail
  go_ret
  exact ⟨ret_b M.out, HB.out⟩
/-- Whether a part names the key. -/
def named (l : List Req) (x : Lab) : Bool := l.any fun r => same r.key x.key
theorem enters_namedFn : Enters Tryd.prog 5 := enters_of Tryd.func5 (by kernel_rfl) rfl
set_option maxHeartbeats 1000000 in
theorem named_calls (l : List Req) (a : Option Addr) (c : Nat) (x : Lab) (B : Nat) (w : World) (hB : w.cell? ⟨B, 0, none⟩ = some (.slice a l.length c)) (hl : ReqsAt w a l) (hc : l.length ≤ c) :
    Calls Tryd.prog 5 (#[x.value] ++ #[.pointer (some ⟨B, 0, none⟩)]) w fun e w' => e = .returned (.bool (named l x)) ∧ Below w.heap.size w w' := by
  have B1 : Below w.heap.size w (w.alloc (.cells #[.string x.key, .string x.val] 28)) := (Below.refl _ w).alloc (Nat.le_refl _) _
  have I := Lib.hid (containsReq_calls l a c 7 #[.pointer (some ⟨w.heap.size, 0, none⟩)] (fun r => same r.key x.key) (w.alloc (.cells #[.string x.key, .string x.val] 28)) (hl.later B1) hc enters_keyFn
    (fun r a c W hb => keyFn_calls r a c x.key w.heap.size W (cell_later hb (cell_new w _ _ 0 _ rfl))))
  have q0 := cell_later B1 hB
  have BB := Lib.hid B1
  clear hl B1 hB
  unfold Lab.value named
  generalize l.any (fun r => same r.key x.key) = v at I
  go_enter Tryd.func5, Tryd.ntmps5
  go_wp2_with fail
  refine I.out.mono ?_
  rintro e w' ⟨rfl, hb⟩
  have HB := Lib.hid (BB.out.trans (hb.mono (by simp)))
  clear hb
  go_wp2_with fail
  go_ret
  exact ⟨rfl, HB.out⟩
theorem enters_notNamedFn : Enters Tryd.prog 10 := enters_of Tryd.func10 (by kernel_rfl) rfl
set_option maxHeartbeats 1000000 in
theorem notNamed_calls (l : List Req) (a : Option Addr) (c : Nat) (x : Lab) (B F : Nat) (w : World) (hB : w.cell? ⟨B, 0, none⟩ = some (.slice a l.length c)) (hF : w.cell? ⟨F, 0, none⟩ = some (.func (.func 5) #[] #[.pointer (some ⟨B, 0, none⟩)])) (hl : ReqsAt w a l) (hc : l.length ≤ c) :
    Calls Tryd.prog 10 (#[x.value] ++ #[.pointer (some ⟨F, 0, none⟩)]) w fun e w' => e = .returned (.bool (!named l x)) ∧ Below w.heap.size w w' := by
  have B1 : Below w.heap.size w (w.alloc (.cells #[.string x.key, .string x.val] 28)) := (Below.refl _ w).alloc (Nat.le_refl _) _
  have I := Lib.hid (named_calls l a c x B (w.alloc (.cells #[.string x.key, .string x.val] 28)) (cell_later B1 hB) (hl.later B1) hc)
  have q0 := cell_later B1 hF
  have BB := Lib.hid B1
  have EN := enters_namedFn
  unfold Enters at EN
  clear hl B1 hB hF
  unfold Lab.value at I ⊢
  generalize named l x = v at I
  go_enter Tryd.func10, Tryd.ntmps10
  go_wp2_with fail
  refine I.out.mono ?_
  rintro e w' ⟨rfl, hb⟩
  have HB := Lib.hid (BB.out.trans (hb.mono (by simp)))
  clear hb
  go_wp2_with fail
  go_ret
  exact ⟨rfl, HB.out⟩
end Go.Proofs.YtpccgdlgfblaeaaDoor
