/- slices.BinarySearchFunc at labels, by their keys: walked. -/
import Derived.Test.YtpccgdlgfblaeaaDoorDelete
import Derived.Deep.RegionWith
import Derived.BigQuiet
namespace Go.Proofs.YtpccgdlgfblaeaaDoor
open Go.RowKit Go.Proofs
theorem _root_.Go.RowKit.Below.drewN' {B : Nat} {w w' : World} (h : Below B w w') (n : Nat) : Below B w (w'.drewN n) := h.trans ⟨rfl, rfl, rfl, Nat.le_refl _, fun _ _ => rfl⟩
def cmpKey (x y : Lab) : Int := Lib.compareBytes x.key.data.toList y.key.data.toList
theorem enters_cmpFn : Enters Tryd.prog 14 := enters_of Tryd.func14 (by kernel_rfl) rfl
set_option maxHeartbeats 1000000 in
theorem cmpFn_calls (x y : Lab) (W : World) :
    Calls Tryd.prog 14 #[x.value, y.value] W fun e W' => e = .returned (.int .i64 (cmpKey x y)) ∧ Below W.heap.size W W' := by
  have C := Lib.hid (fun w => Tryd.strings_Compare x.key y.key w)
  unfold Lab.value
  go_enter Tryd.func14, Tryd.ntmps14
  go_wp2_with fail
  refine (C.out _).mono ?_
  rintro e w1 ⟨rfl, rfl⟩
  go_wp2_with fail
  go_ret
  exact ⟨rfl, ((Below.refl _ W).alloc (Nat.le_refl _) _).alloc (by simp) _⟩
/-- What the search finds: where x belongs; and whether its key is there. -/
def Found (l : List Lab) (x : Lab) (e : Ending) : Prop :=
  ∃ (k : Nat) (had : Bool), e = .returned (.tuple #[.int .i64 k, .bool had]) ∧ k ≤ l.length ∧ (∀ (j : Nat) y, j < k → l[j]? = some y → cmpKey y x < 0) ∧ (∀ (j : Nat) y, k ≤ j → l[j]? = some y → 0 ≤ cmpKey y x) ∧
        (had = true ↔ ∃ y, l[k]? = some y ∧ cmpKey y x = 0)
set_option maxHeartbeats 1000000 in
theorem searchLab_calls (l : List Lab) (a : Option Addr) (c : Nat) (x : Lab) (w : World) (hl : LabsAt w a l) (hc : l.length ≤ c) (h10 : l.length ≤ 1000)
    (hm : ∀ (i j : Nat) y z, i < j → l[i]? = some y → l[j]? = some z → cmpKey z x < 0 → cmpKey y x < 0) :
    Calls Tryd.prog 13 #[.slice a l.length c, x.value, .func (.func 14) #[] #[]] w fun e w' => Found l x e ∧ Below w.heap.size w w' := by
  have F := Lib.hid (fun y W => cmpFn_calls y x W)
  have HM := Lib.hid hm
  clear hm
  have B0 := Lib.hid ((Below.refl _ w).alloc (Nat.le_refl _) (.cells #[.string x.key, .string x.val] 28))
  by_cases hpos : 0 < l.length
  · obtain ⟨b, off, rfl, hcs⟩ := hl.2 hpos
    have HC := Lib.hid hcs
    unfold Lab.value
    clear hl hcs
    go_enter Tryd.func13, Tryd.ntmps13
    go_wp2_with fail
    go_loopw [9, 10] (fun i j wr => ∃ p q : Nat, p ≤ q ∧ q ≤ l.length ∧ i = .int .i64 p ∧ j = .int .i64 q ∧ Hid (∀ (j : Nat) y, j < p → l[j]? = some y → cmpKey y x < 0) ∧ Hid (∀ (j : Nat) y, q ≤ j → l[j]? = some y → 0 ≤ cmpKey y x) ∧
      Hid (Below (w.heap.size + 1) (w.alloc (.cells #[.string x.key, .string x.val] 28)) wr)) (fun i j _ => (intOf j).toNat - (intOf i).toNat)
    case atStart => exact ⟨0, l.length, Nat.zero_le _, Nat.le_refl _, rfl, rfl, fun j y hj => absurd hj (Nat.not_lt_zero _), fun j y hj hy => absurd (List.getElem?_eq_some_iff.1 hy).1 (by omega), Below.refl _ _⟩
    case round =>
      obtain ⟨p, q, hpq, hq, rfl, rfl, A1, A2, BB⟩ := hrel
      have BX := Lib.hid (B0.out.trans (BB.out.mono (by omega)))
      have D0 : ∀ n : Later wr, n.world.cell? ⟨w.heap.size, 0, none⟩ = some (.string x.key) := fun n => n.cell (cell_later (BB.out.mono (by simp)) (cell_new w _ _ 0 _ rfl))
      have D1 : ∀ n : Later wr, n.world.cell? ⟨w.heap.size, 1, none⟩ = some (.string x.val) := fun n => n.cell (cell_later (BB.out.mono (by simp)) (cell_new w _ _ 1 _ rfl))
      by_cases hlt : p < q
      · obtain ⟨m, hm⟩ : ∃ m : Nat, (p + q) / 2 = m := ⟨_, rfl⟩
        have em : ((p : Int) + (q : Int)) / 2 = (m : Int) := by omega
        have hpm : p ≤ m := by omega
        have hmq : m < q := by omega
        have hml : m < l.length := by omega
        clear hm
        obtain ⟨y, hy⟩ : ∃ y, l[m]? = some y := ⟨_, List.getElem?_eq_getElem hml⟩
        obtain ⟨c0, c1, -, -⟩ := HC.out m y hy
        have Q0 := fun n : Later wr => n.cell (cell_later BX.out c0)
        have Q1 := fun n : Later wr => n.cell (cell_later BX.out c1)
        have HY := Lib.hid hy
        clear hy c0 c1
        by_cases hneg : cmpKey y x < 0
        · have HN := Lib.hid hneg
          have hd : decide (cmpKey y x < 0) = true := decide_eq_true hneg
          clear hneg
          go_wp2_with fail
          refine wp_region_later (by kernel_rfl) (by kernel_rfl) ?_
          repeat (go_big_quiet_step ((go_at_call 14; exact calls_later (F.out y _))))
          refine wpQuiet_nil ?_
          intro _ hw'
          obtain ⟨⟨w1, hb⟩, rfl⟩ := hw'
          have BB1 := Lib.hid (BB.out.trans (Below.mono hb (by have := BB.out.size; simp at this; omega)))
          clear hb Q0 Q1 D0 D1
          go_wp2_with fail
          go_roundw
          case rel =>
            refine ⟨m + 1, q, by omega, hq, by go_num, rfl, fun j z hj hz => ?_, fun j z hj hz => A2.out j z hj hz, BB1⟩
            by_cases e : j = m
            · subst e; rw [HY.out] at hz; cases hz; exact HN.out
            · exact HM.out j m z y (by omega) hz HY.out HN.out
          case measure => simp [intOf]; omega
        · have HN := Lib.hid hneg
          have hd : decide (cmpKey y x < 0) = false := decide_eq_false hneg
          clear hneg
          go_wp2_with fail
          refine wp_region_later (by kernel_rfl) (by kernel_rfl) ?_
          repeat (go_big_quiet_step ((go_at_call 14; exact calls_later (F.out y _))))
          refine wpQuiet_nil ?_
          intro _ hw'
          obtain ⟨⟨w1, hb⟩, rfl⟩ := hw'
          have BB1 := Lib.hid (BB.out.trans (Below.mono hb (by have := BB.out.size; simp at this; omega)))
          clear hb Q0 Q1 D0 D1
          go_wp2_with fail
          go_roundw
          case rel =>
            refine ⟨p, m, by omega, by omega, rfl, rfl, A1, fun j z hj hz => ?_, BB1⟩
            have hn := HN.out
            by_cases e : j = m
            · subst e; rw [HY.out] at hz; cases hz; omega
            · rcases Int.lt_or_le (cmpKey z x) 0 with hz0 | hz0
              · have := HM.out m j y z (by omega) HY.out hz hz0; omega
              · exact hz0
          case measure => simp [intOf]; omega
      · have hpq' : p = q := by omega
        subst hpq'
        clear hlt
        by_cases hpl : p < l.length
        · obtain ⟨y, hy⟩ : ∃ y, l[p]? = some y := ⟨_, List.getElem?_eq_getElem hpl⟩
          obtain ⟨c0, c1, -, -⟩ := HC.out p y hy
          have Q0 := fun n : Later wr => n.cell (cell_later BX.out c0)
          have Q1 := fun n : Later wr => n.cell (cell_later BX.out c1)
          have HY := Lib.hid hy
          have hg : decide (p < l.length) = true := decide_eq_true hpl
          clear hy c0 c1
          obtain ⟨had, hhad⟩ : ∃ had, (cmpKey y x == 0) = had := ⟨_, rfl⟩
          have HH : Hid (had = true ↔ ∃ y, l[p]? = some y ∧ cmpKey y x = 0) := by
            rw [← hhad, HY.out]; constructor
            · intro h; exact ⟨y, rfl, by simpa using h⟩
            · rintro ⟨z, hz, h⟩; cases hz; simpa using h
          go_wp2_with fail
          refine wp_region_later (by kernel_rfl) (by kernel_rfl) ?_
          repeat (go_big_quiet_step ((go_at_call 14; exact calls_later (F.out y _))))
          refine wpQuiet_nil ?_
          intro _ hw'
          obtain ⟨⟨w1, hb⟩, rfl⟩ := hw'
          have BB1 := Lib.hid (BX.out.trans (hb.mono BX.out.size))
          clear hb Q0 Q1 D0 D1
          go_wp2_with fail
          go_ret2
          exact ⟨⟨p, had, rfl, hq, A1.out, A2.out, HH.out⟩, BB1.out⟩
        · have hg : decide (p < l.length) = false := decide_eq_false hpl
          have HP := Lib.hid hpl
          go_wp2_with fail
          refine wp_region_later (by kernel_rfl) (by kernel_rfl) ?_
          repeat (go_big_quiet_step (fail))
          refine wpQuiet_nil ?_
          intro _ hw'
          obtain ⟨⟨w1, hb⟩, rfl⟩ := hw'
          have BB1 := Lib.hid (BX.out.trans (hb.mono BX.out.size))
          clear hb D0 D1
          go_wp2_with fail
          go_ret2
          exact ⟨⟨p, false, rfl, hq, A1.out, A2.out, ⟨fun h => (by cases h), fun ⟨z, hz, h0⟩ => absurd (List.getElem?_eq_some_iff.1 hz).1 (by have := HP.out; omega)⟩⟩, BB1.out⟩
  · obtain rfl : l = [] := List.eq_nil_of_length_eq_zero (by omega)
    clear hl
    unfold Lab.value
    go_enter Tryd.func13, Tryd.ntmps13
    go_wp2_with fail
    go_loop [9, 10] (fun i j => i = .int .i64 0 ∧ j = .int .i64 0) (fun _ _ => 0)
    case atStart => exact ⟨rfl, rfl⟩
    case round =>
      obtain ⟨rfl, rfl⟩ := hrel
      go_wp2_with fail
      refine wp_region_later (by kernel_rfl) (by kernel_rfl) ?_
      repeat (go_big_quiet_step (fail))
      refine wpQuiet_nil ?_
      intro _ hw'
      obtain ⟨⟨w1, hb⟩, rfl⟩ := hw'
      have BB1 := Lib.hid (B0.out.trans (hb.mono B0.out.size))
      clear hb
      go_wp2_with fail
      go_ret2
      exact ⟨⟨0, false, rfl, Nat.le_refl _, fun j y hj => absurd hj (Nat.not_lt_zero _), fun j y _ hy => by simp at hy, ⟨fun h => (by cases h), fun ⟨z, hz, h0⟩ => by simp at hz⟩⟩, BB1.out⟩
end Go.Proofs.YtpccgdlgfblaeaaDoor
