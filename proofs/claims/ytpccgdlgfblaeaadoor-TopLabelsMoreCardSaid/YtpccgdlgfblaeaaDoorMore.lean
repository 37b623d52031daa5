/- TopLabelsMore: the plain law, and the law's function walked. -/
import Derived.Test.YtpccgdlgfblaeaaDoorOrder
import Derived.Test.YtpccgdlgfblaeaaDoorNamed
import Derived.Laws.EntriesVeiled
namespace Go.Proofs.YtpccgdlgfblaeaaDoor
open Go.RowKit Go.Proofs
theorem same_comm (a b : ByteArray) : same a b = same b a := by
  rw [Bool.eq_iff_iff, same_iff, same_iff]; exact ⟨Eq.symm, Eq.symm⟩
theorem named_no {l : List Req} {x : Lab} (h : named l x = false) : ∀ r ∈ l, same r.key x.key = false := by
  unfold named at h
  rw [List.any_eq_false] at h
  intro r hr
  simpa using h r hr
theorem allB_no_name (l : List Req) (A B : List Lab) (x : Lab) (h : named l x = false) : allB l (A ++ x :: B) = allB l (A ++ B) :=
  allB_without l A B x (named_no h)
theorem matchB_ok {l : List Req} {labels : List Lab} (h1 : checkReqs l = 0) (h2 : checkLabs labels = 0) : matchB l labels = (allB l labels, 0) := by simp [matchB, h1, h2]
theorem matchB_cases (l : List Req) (labels : List Lab) : (checkReqs l = 0 ∧ checkLabs labels = 0 ∧ matchB l labels = (allB l labels, 0)) ∨ (∃ e : Int, e ≠ 0 ∧ matchB l labels = (false, e)) := by
  by_cases h1 : checkReqs l = 0
  · by_cases h2 : checkLabs labels = 0
    · exact .inl ⟨h1, h2, matchB_ok h1 h2⟩
    · exact .inr ⟨checkLabs labels, h2, by simp [matchB, h1, h2]⟩
  · exact .inr ⟨checkReqs l, h1, by simp [matchB, h1]⟩
theorem split_at {α : Type} (l : List α) (k : Nat) (x : α) (h : l[k]? = some x) : l = l.take k ++ x :: l.drop (k + 1) := by
  obtain ⟨hk, rfl⟩ := List.getElem?_eq_some_iff.1 h
  rw [List.getElem_cons_drop, List.take_append_drop]
theorem more_less (l : List Req) (labels : List Lab) (k : Nat) (x : Lab) (h1 : checkReqs l = 0) (h2 : checkLabs labels = 0) (hx : labels[k]? = some x) (hn : named l x = false) :
    matchB l (labels.eraseIdx k) = (allB l labels, 0) := by
  rw [checkLabs_zero] at h2
  have hs : (labels.eraseIdx k).Sublist labels := List.eraseIdx_sublist _ _
  have h3 : checkLabs (labels.eraseIdx k) = 0 := (checkLabs_zero _).2 ⟨Nat.le_trans hs.length_le h2.1, fun y hy => h2.2.1 y (hs.subset hy), h2.2.2.sublist hs⟩
  rw [matchB_ok h1 h3, List.eraseIdx_eq_take_drop_succ]
  conv => rhs; rw [split_at labels k x hx]
  rw [allB_no_name l _ _ x hn]
theorem more_more (l : List Req) (labels : List Lab) (k : Nat) (x : Lab) (h1 : checkReqs l = 0) (h2 : checkLabs labels = 0) (hk : k ≤ labels.length) (hc : checkKey x.key = 0 ∧ checkVal x.val = 0)
    (hlo : ∀ (j : Nat) y, j < k → labels[j]? = some y → cmpKey y x < 0) (hhi : ∀ (j : Nat) y, k ≤ j → labels[j]? = some y → 0 ≤ cmpKey y x) (hno : ¬ ∃ y, labels[k]? = some y ∧ cmpKey y x = 0) (hn : named l x = false) :
    matchB l (insLab labels k x) = (allB l labels, 0) ∨ matchB l (insLab labels k x) = (false, 2) := by
  have h2' := (checkLabs_zero _).1 h2
  obtain ⟨h4, h5, h6⟩ := h2'
  have e : allB l (insLab labels k x) = allB l labels := by unfold insLab; rw [allB_no_name l _ _ x hn, List.take_append_drop]
  by_cases hlen : 10 < (insLab labels k x).length
  · right
    have : checkLabs (insLab labels k x) = 2 := by unfold checkLabs; simp [hlen]
    simp [matchB, h1, this]
  · left
    have hlt : ∀ y ∈ labels.take k, less y.key x.key = true := by
      intro y hy
      obtain ⟨j, hj, e⟩ := List.getElem_of_mem hy
      rw [List.length_take] at hj
      rw [less_eq]
      exact decide_eq_true (hlo j y (by omega) (by rw [List.getElem_take] at e; exact List.getElem?_eq_some_iff.2 ⟨by omega, e⟩))
    have hk0 : ∀ y, labels[k]? = some y → less x.key y.key = true := by
      intro y hy
      have a1 := hhi k y (Nat.le_refl _) hy
      have a2 : cmpKey y x ≠ 0 := fun h => hno ⟨y, hy, h⟩
      rw [less_eq, cmpB_neg]
      unfold cmpKey at a1 a2
      exact decide_eq_true (by omega)
    have hgt : ∀ y ∈ labels.drop k, less x.key y.key = true := by
      intro y hy
      obtain ⟨j, hj, e⟩ := List.getElem_of_mem hy
      rw [List.getElem_drop] at e
      rw [List.length_drop] at hj
      cases j with
      | zero => exact hk0 y (List.getElem?_eq_some_iff.2 ⟨by omega, e⟩)
      | succ j =>
        have h0 : labels[k]? = some labels[k] := List.getElem?_eq_getElem (by omega)
        refine less_trans (hk0 _ h0) ?_
        rw [← e]
        exact List.pairwise_iff_getElem.1 h6 _ _ _ _ (by omega)
    have h3 : checkLabs (insLab labels k x) = 0 := by
      refine (checkLabs_zero _).2 ⟨by omega, fun y hy => ?_, ?_⟩
      · unfold insLab at hy
        simp only [List.mem_append, List.mem_cons] at hy
        rcases hy with h | rfl | h
        · exact h5 y (List.mem_of_mem_take h)
        · exact hc
        · exact h5 y (List.mem_of_mem_drop h)
      · unfold insLab
        rw [List.pairwise_append, List.pairwise_cons]
        refine ⟨h6.sublist (List.take_sublist _ _), ⟨hgt, h6.sublist (List.drop_sublist _ _)⟩, ?_⟩
        intro a ha b hb
        rcases List.mem_cons.1 hb with rfl | hb
        · exact hlt a ha
        · exact less_trans (hlt a ha) (hgt b hb)
    rw [matchB_ok h1 h3, e]
theorem mono_keys (labels : List Lab) (x : Lab) (h : checkLabs labels = 0) (i j : Nat) (y z : Lab) (hij : i < j) (hy : labels[i]? = some y) (hz : labels[j]? = some z) (hc : cmpKey z x < 0) : cmpKey y x < 0 := by
  obtain ⟨hi, rfl⟩ := List.getElem?_eq_some_iff.1 hy
  obtain ⟨hj, rfl⟩ := List.getElem?_eq_some_iff.1 hz
  have := List.pairwise_iff_getElem.1 ((checkLabs_zero _).1 h).2.2 i j hi hj hij
  rw [less_eq, decide_eq_true_iff] at this
  exact cmpB_trans _ _ _ this hc
def newKey (k : Nat) : ByteArray := if k = 0 then ⟨#[97, 48]⟩ else if k = 1 then ⟨#[109, 48]⟩ else ⟨#[122, 122, 48]⟩
theorem newKey_ok (k : Nat) : checkKey (newKey k) = 0 ∧ checkVal ⟨#[118]⟩ = 0 := by
  refine ⟨?_, by kernel_rfl⟩
  unfold newKey
  split
  · kernel_rfl
  · split
    · kernel_rfl
    · kernel_rfl
theorem newKey_small (k : Nat) : small (newKey k) := by
  unfold newKey small
  split
  · decide
  · split <;> decide
theorem OwnLabs.later {w w' : World} {base : Nat} {v : Value} {l : List Lab} (h : OwnLabs w base v l) (hb : Below w.heap.size w w') : OwnLabs w' base v l := by
  obtain ⟨hlen, h2⟩ := h
  refine ⟨hlen, ?_⟩
  rcases h2 with h | ⟨g, cap, cur, h1, h3, hh, h4⟩
  · exact .inl h
  · refine .inr ⟨g, cap, cur, h1, h3, ?_, h4⟩
    rw [hb.block g (Array.getElem?_eq_some_iff.1 hh).1]
    exact hh
theorem OwnLabs.apart {w : World} {base : Nat} {v : Value} {l : List Lab} (h : OwnLabs w base v l) : v.ownBlock ≠ some w.heap.size := by
  rcases h.2 with ⟨h, -⟩ | ⟨g, cap, cur, h1, h3, hh, h4⟩
  · rw [h]; simp [Value.ownBlock]
  · rw [h1]
    have := (Array.getElem?_eq_some_iff.1 hh).1
    simp [Value.ownBlock]
    omega
theorem idxOf_cases {α : Type} (p : α → Bool) (l : List α) : idxOf p l = -1 ∨ ∃ (k : Nat) (x : α), idxOf p l = k ∧ l[k]? = some x ∧ p x = true := by
  rcases idxOf_find p l with ⟨h, -⟩ | ⟨k, x, h, hk, hf⟩
  · exact .inl h
  · exact .inr ⟨k, x, h, hk, List.find?_some hf⟩
set_option maxHeartbeats 2000000 in
theorem more_calls (l : List Req) (a : Option Addr) (c : Nat) (labels : List Lab) (a' : Option Addr) (c' : Nat) (which : Int) (less : Bool) (w : World) (hl : ReqsAt w a l) (hc : l.length ≤ c) (hb : LabsAt w a' labels) (hc' : labels.length ≤ c') :
    Calls Tryd.prog 3 #[.slice a l.length c, .slice a' labels.length c', .int .i64 which, .bool less] w fun e w' => e = .returned (.bool true) ∧ Below w.heap.size w w' := by
  obtain ⟨w0, hw0⟩ : ∃ w0, w0 = w.alloc (.cells #[.slice a l.length c] 22) := ⟨_, rfl⟩
  have b0 : Below w.heap.size w w0 := by rw [hw0]; exact (Below.refl _ w).alloc (Nat.le_refl _) _
  have hc0 : w0.cell? ⟨w.heap.size, 0, none⟩ = some (.slice a l.length c) := by rw [hw0]; exact cell_new w _ _ 0 _ rfl
  have W0 := Lib.hid hw0
  have HL := Lib.hid (hl.later b0)
  have HB := Lib.hid (hb.later b0)
  have B0 := Lib.hid b0
  have C0 := Lib.hid hc0
  have M0 := Lib.hid (match_calls [] none 0 [] none 0 w0 ⟨by simp, fun h => absurd h (by simp)⟩ (Nat.le_refl _) ⟨by simp, fun h => absurd h (by simp)⟩ (Nat.le_refl _))
  have M1 := Lib.hid (fun W (hW : Below w0.heap.size w0 W) => match_calls l a c labels a' c' W (hl.later (b0.trans (hW.mono b0.size))) hc (hb.later (b0.trans (hW.mono b0.size))) hc')
  rw [show matchB [] [] = (true, 0) from by kernel_rfl] at M0
  unfold RetBE at M0 M1
  dsimp only [List.length_nil] at M0
  have HS : Hid (smallLabs labels) := hb.smalls
  clear hl hb b0 hc0 hw0
  rcases matchB_cases l labels with ⟨h1, h2, hm⟩ | ⟨e, he, hm⟩
  · have hsmall : labels.length ≤ 1000 := by have := ((checkLabs_zero _).1 h2).1; omega
    have M2 := Lib.hid (M1.out)
    rw [hm] at M1
    dsimp only at M1
    have H1 := Lib.hid h1
    have H2 := Lib.hid h2
    generalize hwant : allB l labels = want at M1 hm
    have HW := Lib.hid hwant
    clear hm h1 h2 hwant
    cases less
    · have hxk := fun k => newKey_ok k
      go_enter Tryd.func3, Tryd.ntmps3
      go_wp2_with fail
      rw [← W0.out]
      refine M0.out.mono ?_
      rintro _ w1 ⟨rfl, hb⟩
      have q0 := cell_later hb C0.out
      have C1 := Lib.hid (M1.out w1 hb)
      have B1 := Lib.hid hb
      clear hb
      go_wp2_with fail
      refine C1.out.mono ?_
      rintro _ w2 ⟨rfl, hb⟩
      have B2 := Lib.hid (below_then B1.out B1.out.size hb)
      have q1 := cell_later hb q0
      have r0 := cell_new w2 #[.nilFunc] 34 0 .nilFunc rfl
      have r1 := frozen_new w2 #[.nilFunc] 34 0
      obtain ⟨w3, hw3⟩ : ∃ w3, w3 = w2.alloc (.cells #[.func (.func 5) #[] #[.pointer (some ⟨w.heap.size, 0, none⟩)]] 34) := ⟨_, rfl⟩
      have hb3 : Below w2.heap.size w2 w3 := by rw [hw3]; exact (Below.refl _ w2).alloc (Nat.le_refl _) _
      have q2 := cell_later hb3 q1
      have hs : w3.heap.size = w2.heap.size + 1 := by rw [hw3]; simp
      have qf : w3.cell? ⟨w2.heap.size, 0, none⟩ = some (.func (.func 5) #[] #[.pointer (some ⟨w.heap.size, 0, none⟩)]) := by
        rw [hw3]; exact cell_new w2 _ _ 0 _ rfl
      have B3 := Lib.hid (below_then B2.out B2.out.size hb3)
      have W3 := Lib.hid hw3
      clear hb q0 hw3 hb3
      go_wp2_with fail
      rw [← W3.out]
      clear r0 r1 q1
      refine (cloneLab_calls labels a' c' w3 (HB.out.later B3.out) hc' hsmall).mono ?_
      rintro _ w4 ⟨v, rfl, hv, hb⟩
      have q3 := cell_later hb q2
      have qf1 := cell_later hb qf
      have B4 := Lib.hid (below_then B3.out B3.out.size hb)
      have T4 : Hid (w3.heap.size ≤ w4.heap.size) := hb.size
      have HV := Lib.hid hv
      clear hv hb q2 qf
      go_wp2_with fail
      have hvl := HV.out.1
      have HI := Lib.hid (HV.out)
      obtain ⟨av, cv, rfl, hcv, hat⟩ := HV.out.at_ HS.out (by omega)
      have HA := Lib.hid hat
      clear hat
      obtain ⟨w5, hw5⟩ : ∃ w5, w5 = w4.alloc (.cells #[.string ⟨#[97, 48]⟩, .string ⟨#[109, 48]⟩, .string ⟨#[122, 122, 48]⟩] 9) := ⟨_, rfl⟩
      have hb5 : Below w4.heap.size w4 w5 := by rw [hw5]; exact (Below.refl _ w4).alloc (Nat.le_refl _) _
      have q4 := cell_later hb5 q3
      have qf2 := cell_later hb5 qf1
      have qk : Hid (∀ k, k < 3 → w5.cell? ⟨w4.heap.size, k, none⟩ = some (.string (newKey k))) := by
        intro k hk
        rw [hw5]
        rcases k with _ | _ | _ | k
        · exact cell_new w4 _ _ 0 _ rfl
        · exact cell_new w4 _ _ 1 _ rfl
        · exact cell_new w4 _ _ 2 _ rfl
        · omega
      have B5 := Lib.hid (below_then B4.out B4.out.size hb5)
      have T5 : Hid (w3.heap.size ≤ w5.heap.size) := Nat.le_trans T4.out hb5.size
      have HV5 := Lib.hid (HI.out.later hb5)
      have HA5 := Lib.hid (HA.out.later hb5)
      have W5 := Lib.hid hw5
      clear hb5 q3 qf1 hw5
      go_wp2_with fail
      rw [← W5.out]
      refine (pick_calls which 3 _ (by decide) (by decide)).mono ?_
      rintro _ w5 ⟨⟨k, hk, rfl⟩, rfl⟩
      have q5 := qk.out k hk
      have ok := Lib.hid (newKey_ok k)
      have oks := newKey_small k
      generalize newKey k = key at q5 ok oks
      have hk1 : (k : Int) < 3 := by omega
      obtain ⟨w6, hw6⟩ : ∃ w6, w6 = w5.alloc (.cells #[.string key, .string ⟨#[118]⟩] 28) := ⟨_, rfl⟩
      have hb6 : Below w5.heap.size w5 w6 := by rw [hw6]; exact (Below.refl _ w5).alloc (Nat.le_refl _) _
      have q6 := cell_later hb6 q4
      have qf3 := cell_later hb6 qf2
      have d0 : w6.cell? ⟨w5.heap.size, 0, none⟩ = some (.string key) := by rw [hw6]; exact cell_new w5 _ _ 0 _ rfl
      have d1 : w6.cell? ⟨w5.heap.size, 1, none⟩ = some (.string ⟨#[118]⟩) := by rw [hw6]; exact cell_new w5 _ _ 1 _ rfl
      have B6 := Lib.hid (below_then B5.out B5.out.size hb6)
      have T6 : Hid (w3.heap.size ≤ w6.heap.size) := Nat.le_trans T5.out hb6.size
      have HV6 := Lib.hid (HV5.out.later hb6)
      have HA6 := Lib.hid (HA5.out.later hb6)
      have W6 := Lib.hid hw6
      clear hb6 hw6 qk hxk
      go_wp2_with fail
      rw [← W6.out]
      clear q5 q4 qf2
      refine (searchLab_calls labels av cv ⟨key, ⟨#[118]⟩⟩ w6 HA6.out hcv hsmall (mono_keys labels _ H2.out)).mono ?_
      rintro _ w7 ⟨⟨k, had, rfl, hkl, hlo, hhi, hhad⟩, hb⟩
      have q7 := cell_later hb q6
      have qf4 := cell_later hb qf3
      have e0 := cell_later hb d0
      have e1 := cell_later hb d1
      have B7 := Lib.hid (below_then B6.out B6.out.size hb)
      have T7 : Hid (w3.heap.size ≤ w7.heap.size) := Nat.le_trans T6.out hb.size
      have HV7 := Lib.hid (HV6.out.later hb)
      have HA7 := Lib.hid (HA6.out.later hb)
      have HLo := Lib.hid hlo
      have HHi := Lib.hid hhi
      have HHad := Lib.hid hhad
      clear hb q6 qf3 d0 d1 hlo hhi hhad
      cases had
      · have NM := Lib.hid (named_calls l a c ⟨key, ⟨#[118]⟩⟩ w.heap.size w7 q7 (HL.out.later B7.out) hc)
        have EN := enters_namedFn
        unfold Enters at EN
        cases hn : named l ⟨key, ⟨#[118]⟩⟩
        · rw [hn] at NM
          have HN := Lib.hid hn
          clear hn
          go_wp2_with fail
          refine NM.out.mono ?_
          rintro _ w8 ⟨rfl, hb⟩
          have q8 := cell_later hb q7
          have f0 := cell_later hb e0
          have f1 := cell_later hb e1
          have B8 := Lib.hid (below_then B7.out B7.out.size hb)
          have T8 : Hid (w3.heap.size ≤ w8.heap.size) := Nat.le_trans T7.out hb.size
          have HV8 := Lib.hid (HV7.out.later hb)
          have HA8 := Lib.hid (HA7.out.later hb)
          clear hb q7 e0 e1 qf4
          obtain ⟨w9, hw9⟩ : ∃ w9, w9 = w8.alloc (.cells #[.string key, .string ⟨#[118]⟩] 28) := ⟨_, rfl⟩
          have hb9 : Below w8.heap.size w8 w9 := by rw [hw9]; exact (Below.refl _ w8).alloc (Nat.le_refl _) _
          have q9 := cell_later hb9 q8
          have g0 : w9.heap[w8.heap.size]? = some (.cells #[.string key, .string ⟨#[118]⟩] 28) := by rw [hw9]; exact heap_alloc_new w8 _
          have B9 := Lib.hid (below_then B8.out B8.out.size hb9)
          have HV9 := Lib.hid (HV8.out.later hb9)
          have W9 := Lib.hid hw9
          have HAp := Lib.hid HV8.out.apart
          have INS := Lib.hid (insertLab_calls labels _ k _ w8.heap.size ⟨key, ⟨#[118]⟩⟩ w9 HV9.out hkl hsmall (Nat.le_trans T8.out hb9.size) g0 HAp.out)
          clear hw9 hb9 g0
          go_wp2_with fail
          rw [← W9.out]
          refine INS.out.mono ?_
          rintro _ w10 ⟨⟨v', rfl, hv'⟩, hb⟩
          have b03 : w0.heap.size ≤ w3.heap.size := B3.out.size
          have b03' : w.heap.size < w3.heap.size := by have := (Array.getElem?_eq_some_iff.1 (show w0.heap[w.heap.size]? = some _ from by rw [W0.out]; exact heap_alloc_new w _)).1; omega
          have hnk : ¬ ∃ y, labels[k]? = some y ∧ cmpKey y ⟨key, ⟨#[118]⟩⟩ = 0 := fun h => by have := HHad.out.2 h; simp at this
          have MR := more_more l labels k ⟨key, ⟨#[118]⟩⟩ H1.out H2.out hkl ok.out HLo.out HHi.out hnk HN.out
          have el : (insLab labels k ⟨key, ⟨#[118]⟩⟩).length ≤ 1001 := by rw [insLab_len _ _ _ hkl]; omega
          obtain ⟨a6, c6, rfl, hc6, hat6⟩ := hv'.at_ (fun y hy => by
            unfold insLab at hy
            simp only [List.mem_append, List.mem_cons] at hy
            rcases hy with h | rfl | h
            · exact HS.out y (List.mem_of_mem_take h)
            · exact ⟨oks, by show (1 : Nat) ≤ 9223372036854775807; decide⟩
            · exact HS.out y (List.mem_of_mem_drop h)) (by omega)
          have q10 : w10.cell? ⟨w.heap.size, 0, none⟩ = some (.slice a l.length c) := (hb.cell b03').trans q9
          have B10 := Lib.hid (B9.out.trans (hb.mono b03))
          have MM := Lib.hid (match_calls l a c (insLab labels k ⟨key, ⟨#[118]⟩⟩) a6 c6 w10 (HL.out.later B10.out) hc hat6 hc6)
          rw [HW.out] at MR
          unfold RetBE at MM
          clear hv' hat6 hb q9 q8 f0 f1 hnk el
          rcases MR with hm | hm
          · rw [hm] at MM
            dsimp only at MM
            clear hm
            go_wp2_with fail
            refine MM.out.mono ?_
            rintro _ w7 ⟨rfl, hb⟩
            have B11 := Lib.hid (B0.out.trans ((below_then B10.out B10.out.size hb).mono B0.out.size))
            clear hb
            go_wp2_with fail
            go_ret
            exact ⟨ret_b (by simp), B11.out⟩
          · rw [hm] at MM
            dsimp only at MM
            clear hm
            go_wp2_with fail
            refine MM.out.mono ?_
            rintro _ w7 ⟨rfl, hb⟩
            have B11 := Lib.hid (B0.out.trans ((below_then B10.out B10.out.size hb).mono B0.out.size))
            clear hb
            go_wp2_with fail
            go_ret
            exact ⟨rfl, B11.out⟩
        · rw [hn] at NM
          have MM := Lib.hid (fun W (hW : Below w7.heap.size w7 W) => match_calls l a c labels av cv W (HL.out.later (below_then B7.out B7.out.size hW)) hc (HA7.out.later hW) hcv)
          rw [matchB_ok H1.out H2.out, HW.out] at MM
          unfold RetBE at MM
          dsimp only at MM
          clear hn
          go_wp2_with fail
          refine NM.out.mono ?_
          rintro _ w8 ⟨rfl, hb⟩
          have q8 := cell_later hb q7
          have M8 := Lib.hid (MM.out w8 hb)
          have B8 := Lib.hid (below_then B7.out B7.out.size hb)
          clear hb q7
          go_wp2_with fail
          refine M8.out.mono ?_
          rintro _ w9 ⟨rfl, hb⟩
          have B9 := Lib.hid (B0.out.trans ((below_then B8.out B8.out.size hb).mono B0.out.size))
          clear hb
          go_wp2_with fail
          go_ret
          exact ⟨ret_b (by simp), B9.out⟩
      · have MM := Lib.hid (match_calls l a c labels av cv w7 (HL.out.later B7.out) hc HA7.out hcv)
        rw [matchB_ok H1.out H2.out, HW.out] at MM
        unfold RetBE at MM
        dsimp only at MM
        go_wp2_with fail
        refine MM.out.mono ?_
        rintro _ w8 ⟨rfl, hb⟩
        have B8 := Lib.hid (B0.out.trans ((below_then B7.out B7.out.size hb).mono B0.out.size))
        clear hb
        go_wp2_with fail
        go_ret
        exact ⟨ret_b (by simp), B8.out⟩
    · go_enter Tryd.func3, Tryd.ntmps3
      go_wp2_with fail
      rw [← W0.out]
      refine M0.out.mono ?_
      rintro _ w1 ⟨rfl, hb⟩
      have q0 := cell_later hb C0.out
      have C1 := Lib.hid (M1.out w1 hb)
      have B1 := Lib.hid hb
      clear hb
      go_wp2_with fail
      refine C1.out.mono ?_
      rintro _ w2 ⟨rfl, hb⟩
      have B2 := Lib.hid (below_then B1.out B1.out.size hb)
      have q1 := cell_later hb q0
      have r0 := cell_new w2 #[.nilFunc] 34 0 .nilFunc rfl
      have r1 := frozen_new w2 #[.nilFunc] 34 0
      obtain ⟨w3, hw3⟩ : ∃ w3, w3 = w2.alloc (.cells #[.func (.func 5) #[] #[.pointer (some ⟨w.heap.size, 0, none⟩)]] 34) := ⟨_, rfl⟩
      have hb3 : Below w2.heap.size w2 w3 := by rw [hw3]; exact (Below.refl _ w2).alloc (Nat.le_refl _) _
      have q2 := cell_later hb3 q1
      have hs : w3.heap.size = w2.heap.size + 1 := by rw [hw3]; simp
      have qf : w3.cell? ⟨w2.heap.size, 0, none⟩ = some (.func (.func 5) #[] #[.pointer (some ⟨w.heap.size, 0, none⟩)]) := by
        rw [hw3]; exact cell_new w2 _ _ 0 _ rfl
      have B3 := Lib.hid (below_then B2.out B2.out.size hb3)
      have W3 := Lib.hid hw3
      clear hb q0 hw3 hb3
      go_wp2_with fail
      rw [← W3.out]
      clear r0 r1 q1
      refine (cloneLab_calls labels a' c' w3 (HB.out.later B3.out) hc' hsmall).mono ?_
      rintro _ w4 ⟨v, rfl, hv, hb⟩
      have q3 := cell_later hb q2
      have qf1 := cell_later hb qf
      have B4 := Lib.hid (below_then B3.out B3.out.size hb)
      have HV := Lib.hid hv
      clear hv hb q2 qf
      go_wp2_with fail
      have hvl := HV.out.1
      have HI := Lib.hid (HV.out)
      obtain ⟨av, cv, rfl, hcv, hat⟩ := HV.out.at_ HS.out (by omega)
      have HA := Lib.hid hat
      clear hat
      have IX := Lib.hid (indexLab_calls labels av cv 10 #[.pointer (some ⟨w2.heap.size, 0, none⟩)] (fun x => !named l x) w4 HA.out hcv enters_notNamedFn
        (fun x W hb => notNamed_calls l a c x w.heap.size w2.heap.size W (cell_later hb q3) (cell_later hb qf1) ((HL.out.later B4.out).later hb) hc))
      have b03 : Hid (w0.heap.size ≤ w3.heap.size) := B3.out.size
      have b03' : Hid (w.heap.size < w3.heap.size) := by have := B3.out.size; have := (Array.getElem?_eq_some_iff.1 (show w0.heap[w.heap.size]? = some _ from by rw [W0.out]; exact heap_alloc_new w _)).1; show _ < _; omega
      refine IX.out.mono ?_
      rintro _ w5 ⟨rfl, hb⟩
      have q4 := cell_later hb q3
      have qf2 := cell_later hb qf1
      have B5 := Lib.hid (below_then B4.out B4.out.size hb)
      have HV5 := Lib.hid (HI.out.later hb)
      have HA5 := Lib.hid (HA.out.later hb)
      clear hb q3 qf1
      rcases idxOf_cases (fun x : Lab => !named l x) labels with e | ⟨k, x, e, hk, hx⟩
      · have MM := Lib.hid (match_calls l a c labels av cv w5 (HL.out.later B5.out) hc HA5.out hcv)
        rw [matchB_ok H1.out H2.out, HW.out] at MM
        unfold RetBE at MM
        dsimp only at MM
        rw [e]
        go_wp2_with fail
        refine MM.out.mono ?_
        rintro _ w6 ⟨rfl, hb⟩
        have B6 := Lib.hid (B0.out.trans ((below_then B5.out B5.out.size hb).mono B0.out.size))
        clear hb
        go_wp2_with fail
        go_ret
        exact ⟨ret_b (by simp), B6.out⟩
      · have HK := Lib.hid hk
        have HX := Lib.hid hx
        have hkl : k < labels.length := (List.getElem?_eq_some_iff.1 hk).1
        rw [e]
        clear hk hx e
        have D := Lib.hid (deleteLab_calls labels _ k _ w5 HV5.out hkl)
        have hk0 : (0 : Int) ≤ (k : Int) := by omega
        go_wp2_with fail
        refine D.out.mono ?_
        rintro _ w6 ⟨v', rfl, hv', hb⟩
        have hx0 : named l x = false := by have := HX.out; simpa using this
        have el : (labels.eraseIdx k).length ≤ 1000 := Nat.le_trans (List.length_eraseIdx_le _ _) hsmall
        obtain ⟨a6, c6, rfl, hc6, hat6⟩ := hv'.at_ (fun y hy => HS.out y (List.mem_of_mem_eraseIdx hy)) (by omega)
        have q5 : w6.cell? ⟨w.heap.size, 0, none⟩ = some (.slice a l.length c) := (hb.cell b03'.out).trans q4
        have B6 := Lib.hid (B5.out.trans (hb.mono b03.out))
        have MM := Lib.hid (match_calls l a c (labels.eraseIdx k) a6 c6 w6 (HL.out.later B6.out) hc hat6 hc6)
        rw [more_less l labels k x H1.out H2.out HK.out hx0, HW.out] at MM
        unfold RetBE at MM
        dsimp only at MM
        clear hv' hat6 hb q4 hx0 el
        go_wp2_with fail
        refine MM.out.mono ?_
        rintro _ w7 ⟨rfl, hb⟩
        have B7 := Lib.hid (B0.out.trans ((below_then B6.out B6.out.size hb).mono B0.out.size))
        clear hb
        go_wp2_with fail
        go_ret
        exact ⟨ret_b (by simp), B7.out⟩
  · rw [hm] at M1
    dsimp only at M1
    clear hm
    have he' : (e == 0) = false := by simpa using he
    go_enter Tryd.func3, Tryd.ntmps3
    go_wp2_with fail
    rw [← W0.out]
    refine M0.out.mono ?_
    rintro _ w1 ⟨rfl, hb⟩
    have q0 := cell_later hb C0.out
    have C1 := Lib.hid (M1.out w1 hb)
    have B1 := Lib.hid (below_then B0.out B0.out.size hb)
    clear hb
    go_wp2_with fail
    refine C1.out.mono ?_
    rintro _ w2 ⟨rfl, hb⟩
    have B2 := Lib.hid (below_then B1.out B1.out.size hb)
    clear hb
    go_wp2_with fail
    go_ret
    exact ⟨rfl, B2.out⟩
end Go.Proofs.YtpccgdlgfblaeaaDoor
