/- slices.Insert of one label, walked. -/
import Derived.Test.YtpccgdlgfblaeaaDoorDelete
import Derived.Lib.Overlaps
import Derived.Laws.Externs
namespace Go.Proofs.YtpccgdlgfblaeaaDoor
open Go.RowKit Go.Proofs
theorem take_splice_mid {α : Type} (L cs : List α) (off n : Nat) (h : off + cs.length ≤ n) (hl : n ≤ L.length) : (splice L off cs).take n = L.take off ++ (cs ++ (L.drop (off + cs.length)).take (n - (off + cs.length))) := by
  unfold splice
  rw [List.take_append, List.take_append, List.take_of_length_le (by simp; omega), List.take_of_length_le (l := cs) (by simp; omega)]
  congr 2
  congr 1
  simp; omega
theorem drop_splice {α : Type} (L cs : List α) (off : Nat) (hl : off ≤ L.length) : (splice L off cs).drop off = cs ++ L.drop (off + cs.length) := by
  unfold splice
  rw [List.drop_append_of_le_length (by simp; omega), List.drop_of_length_le (by simp; omega), List.nil_append]
theorem take_splice_at {α : Type} (L cs : List α) (off : Nat) (hl : off ≤ L.length) : (splice L off cs).take off = L.take off := take_splice_before _ _ _ _ (Nat.le_refl _) hl
def insLab (l : List Lab) (k : Nat) (x : Lab) : List Lab := l.take k ++ x :: l.drop k
theorem insLab_len (l : List Lab) (k : Nat) (x : Lab) (hk : k ≤ l.length) : (insLab l k x).length = l.length + 1 := by simp [insLab]; omega
theorem insLab_cells (l : List Lab) (k : Nat) (x : Lab) : labCells (insLab l k x) = (labCells l).take (k * 2) ++ ([.string x.key, .string x.val] ++ (labCells l).drop (k * 2)) := by
  unfold insLab; rw [labCells_append, labCells_take, labCells_drop]; rfl
theorem insLab_end (l : List Lab) (x : Lab) : insLab l l.length x = l ++ [x] := by simp [insLab]
/-- Shifted first, then filled in. -/
theorem ins_room (L : List Value) (l : List Lab) (k : Nat) (x : Lab) (hk : k ≤ l.length) (hL : (l.length + 1) * 2 ≤ L.length) (ht : L.take (l.length * 2) = labCells l) :
    (splice (splice L ((k + 1) * 2) ((labCells l).drop (k * 2))) (k * 2) [.string x.key, .string x.val]).take ((insLab l k x).length * 2) = labCells (insLab l k x) := by
  have hd : ((labCells l).drop (k * 2)).length = (l.length - k) * 2 := by rw [List.length_drop, labCells_len]; omega
  have h1 : (splice L ((k + 1) * 2) ((labCells l).drop (k * 2))).length = L.length := length_splice _ _ _ (by omega)
  rw [insLab_len l k x hk, insLab_cells, take_splice_mid _ _ _ _ (by simp; omega) (by omega), take_splice_before _ _ _ _ (by omega) (by omega)]
  congr 1
  · rw [← ht, List.take_take, Nat.min_eq_left (by omega)]
  · congr 1
    rw [show k * 2 + [Value.string x.key, Value.string x.val].length = (k + 1) * 2 from by simp; omega, drop_splice _ _ _ (by omega), List.take_append_of_le_length (by omega), List.take_of_length_le (by omega)]
/-- Filled in first, then the rest behind it. -/
theorem ins_grow (R : List Value) (l : List Lab) (k : Nat) (x : Lab) (hk : k ≤ l.length) (hR : (l.length + 1) * 2 ≤ R.length) (ht : R.take (k * 2) = (labCells l).take (k * 2)) :
    (splice (splice R (k * 2) [.string x.key, .string x.val]) ((k + 1) * 2) ((labCells l).drop (k * 2))).take ((insLab l k x).length * 2) = labCells (insLab l k x) := by
  have hd : ((labCells l).drop (k * 2)).length = (l.length - k) * 2 := by rw [List.length_drop, labCells_len]; omega
  have h1 : (splice R (k * 2) [.string x.key, .string x.val]).length = R.length := length_splice _ _ _ (by simp; omega)
  rw [insLab_len l k x hk, insLab_cells, take_splice_same _ _ _ _ (by omega) (by omega), take_splice_same _ _ _ _ (by simp; omega) (by omega), ht, List.append_assoc]
theorem Tryd.sizeOfLab (w : World) : (Go.sizeOf 28).run Tryd.prog w = .ok 2 w := by kernel_rfl
set_option maxHeartbeats 2000000 in
theorem insertLab_calls (l : List Lab) (v : Value) (k base gx : Nat) (x : Lab) (w : World) (hv : OwnLabs w base v l) (hk : k ≤ l.length) (h10 : l.length ≤ 1000) (hbase : base ≤ w.heap.size)
    (hx : w.heap[gx]? = some (.cells #[.string x.key, .string x.val] 28 (0, 0))) (hgx : v.ownBlock ≠ some gx) :
    Calls Tryd.prog 16 #[v, .int .i64 (k : Int), .slice (some ⟨gx, 0, none⟩) 1 1] w fun e w' => (∃ v', e = .returned v' ∧ OwnLabs w' base v' (insLab l k x)) ∧ Below base w w' := by
  obtain ⟨i0, hi, hz0, hz1, hz2⟩ := info_parts Tryd.infoLab
  have hnews : ∀ j u, ([.string x.key, .string x.val] : List Value)[j]? = some u → w.cell? ((⟨gx, 0, none⟩ : Addr).add j) = some u := by
    intro j u hj
    rw [add_none, Nat.zero_add]
    exact cell_blk (L := [.string x.key, .string x.val]) hx j u hj
  by_cases hkn : k = l.length
  · subst hkn
    have HE : Hid (labCells l ++ [.string x.key, .string x.val] = labCells (insLab l l.length x)) := by rw [insLab_end, labCells_append]; rfl
    have HL := Lib.hid (insLab_len l l.length x (Nat.le_refl _))
    have hone : ∀ u ∈ ([.string x.key, .string x.val] : List Value), u.oneCell' = true := by intro u hu; simp at hu; rcases hu with rfl | rfl <;> rfl
    have HV := Lib.hid hv
    have HN := Lib.hid hnews
    have HO := Lib.hid hone
    have hv' := hv.2
    clear hv hnews hone hx
    rcases hv' with ⟨rfl, h0⟩ | ⟨g, cap, cur, rfl, hbg, -, hcap, hcm, -, -⟩
    · obtain rfl : l = [] := List.eq_nil_of_length_eq_zero h0
      clear h0
      go_enter Tryd.func16, Tryd.ntmps16
      go_wp2_with (at_builtin; refine wpList_append_own _ rfl _ _ 23 rfl base 28 i0 _ 2 32 Tryd.underlying23 hi hz0 hz1 hz2 rfl (by decide) _ 0 [] rfl HV.out ⟨gx, 0, none⟩ 1 1 [.string x.key, .string x.val] rfl rfl HN.out HO.out (by unfold maxLen; omega) (by omega) hbase ?_; intro v' w1 hown' hgrow _)
      have hg : w.grownBy w1 none := hgrow
      have HB := Lib.hid ((Below.refl base w).grown hg hbase (fun k e => by cases e))
      have HW := Lib.hid hown'
      clear hg hgrow hown'
      go_ret
      exact ⟨⟨_, rfl, HW.out⟩, HB.out⟩
    · have HG : Hid (base ≤ g) := hbg
      unfold maxLen at hcm
      go_enter Tryd.func16, Tryd.ntmps16
      go_wp2_with (at_builtin; refine wpList_append_own _ rfl _ _ 23 rfl base 28 i0 _ 2 32 Tryd.underlying23 hi hz0 hz1 hz2 rfl (by decide) _ l.length (labCells l) rfl HV.out ⟨gx, 0, none⟩ 1 1 [.string x.key, .string x.val] rfl rfl HN.out HO.out (by unfold maxLen; omega) (by omega) hbase ?_; intro v' w1 hown' hgrow _)
      all_goals
        have hg : w.grownBy w1 (some g) := hgrow
        have HB := Lib.hid ((Below.refl base w).grown hg hbase (fun k e => by cases e; exact HG.out))
        rw [HE.out] at hown'
        have HW := Lib.hid hown'
        clear hg hgrow hown'
        go_ret
        exact ⟨⟨_, rfl, by unfold OwnLabs; rw [HL.out]; exact HW.out⟩, HB.out⟩
  · obtain ⟨g, cap, L, rfl, hb, hg, hh, hc, hm, hL, ht⟩ := hv.block (by omega)
    have hm0 := Lib.hid hm
    unfold maxLen at hm
    have hkl : k < l.length := by omega
    have hne : g ≠ gx := by intro e; subst e; exact hgx rfl
    obtain ⟨cs, hcs⟩ : ∃ cs, cs = (labCells l).drop (k * 2) := ⟨_, rfl⟩
    have hcl : cs.length = (l.length - k) * 2 := by rw [hcs, List.length_drop, labCells_len]; omega
    have hsrc : ∀ W : World, W.heap[g]? = some (.cells L.toArray 28 (0, 0)) → ∀ j u, cs[j]? = some u → W.cell? ((⟨g, k * 2, none⟩ : Addr).add j) = some u := by
      intro W hW j u hj
      rw [add_none]
      refine cell_blk hW _ u ?_
      rw [hcs, List.getElem?_drop, ← ht, List.getElem?_take] at hj
      split at hj
      · exact hj
      · cases hj
    have h1 : ∀ u ∈ cs, u.oneCell' = true := fun u hu => labCells_one l u (by rw [hcs] at hu; exact List.mem_of_mem_drop hu)
    have hone : ∀ u ∈ ([.string x.key, .string x.val] : List Value), u.oneCell' = true := by intro u hu; simp at hu; rcases hu with rfl | rfl <;> rfl
    have hz1' : ((k : Int) == (l.length : Int)) = false := by simp; omega
    have HH := Lib.hid hh
    have HT := Lib.hid ht
    have HX := Lib.hid hx
    have HS := Lib.hid hsrc
    have HC := Lib.hid hcl
    have H1 := Lib.hid h1
    have HN := Lib.hid hnews
    have HO := Lib.hid hone
    have HCS := Lib.hid hcs
    have HL := Lib.hid (insLab_len l k x hk)
    clear hv hh ht hx hsrc hcl h1 hnews hone hcs hkn
    by_cases hroom : l.length + 1 ≤ cap
    · have hsa : w.shape? gx = some (28, 2) := by unfold World.shape?; rw [HX.out]; rfl
      have hsb : w.shape? g = some (28, L.length) := by unfold World.shape?; rw [HH.out]; simp
      have hfa : w.frozen? ⟨gx, 0, none⟩ = false := by unfold World.frozen?; rw [HX.out]; simp
      have hfe : w.frozen? ⟨gx, 2, none⟩ = false := by unfold World.frozen?; rw [HX.out]; simp
      have hne' : gx ≠ g := fun e => hne e.symm
      have hov : ∀ lb cb, (callFunc 22 #[.slice (some ⟨gx, 0, none⟩) 1 1, .slice (some ⟨g, (k + 1) * 2, none⟩) lb cb]).run Tryd.prog w = .ok (.value (.bool false)) w := fun lb cb => by
        rw [run_callFunc_extern Tryd.func22 (by kernel_rfl) (by kernel_rfl) (by kernel_rfl) (e := Extern.SlicesOverlaps.overlaps #[23, 23] #[4]) (by kernel_rfl),
          Lib.run_overlaps_apart w 23 4 28 Tryd.underlying23 2 Tryd.sizeOfLab ⟨gx, 0, none⟩ ⟨g, (k + 1) * 2, none⟩ 1 1 lb cb hne' _ _ _ _ hsa hsb (by omega) hfa hfe]
        rfl
      have hq3 : (l.length + 1 - k).min (l.length + 1 - (k + 1)) = l.length - k := by show min _ _ = _; omega
      have hq4 : (0 : Int) ≤ (k : Int) + 1 := by omega
      have hq5 : (k : Int) + 1 ≤ (l.length : Int) + 1 := by omega
      have hq6 : ((k : Int) + 1).toNat = k + 1 := by omega
      have hq7 : k + 1 ≤ cap := by omega
      have hq8 : k + 1 ≤ l.length + 1 := by omega
      have hq9 : IntKind.i64.wrap ((k : Int) + 1) = (k : Int) + 1 := IntWalk.i64_in _ (by omega)
      have hq10 : ¬ (cap = k + 1) := by omega
      have hq11 : ¬ (cap = k) := by omega
      have hq12 : ((l.length : Int) + 1) ≤ (cap : Int) := by omega
      have hq13 : ((l.length : Int) + 1).toNat = l.length + 1 := by omega
      have hq14 : ¬ ((cap : Int) < (l.length : Int) + 1) := by omega
      have hq15 : IntKind.i64.wrap ((l.length : Int) + 1) = (l.length : Int) + 1 := IntWalk.i64_in _ (by omega)
      have hq16 : (0 : Int) ≤ (l.length : Int) + 1 := by omega
      have hq17 : (k : Int) ≤ (l.length : Int) + 1 := by omega
      go_enter Tryd.func16, Tryd.ntmps16
      go_wp2_with (simp only [hov])
      go_region_law (refine step_copy_blk rfl (.tmp 73) (.tmp 76) 23 23 rfl 28 Tryd.underlying23 2 Tryd.sizeLab g ((k + 1) * 2) (l.length + 1 - (k + 1)) (cap - (k + 1)) (l.length + 1 - k) (cap - k) 28 (some ⟨g, (k + 1) * 2, none⟩) (some ⟨g, k * 2, none⟩) (by simp [Act.eval, Act.put]) (by simp [Act.eval, Act.put]) L cs (by rw [hq3]; exact HC.out) HH.out (fun _ => ⟨rfl, _, rfl, HS.out _ HH.out⟩) (by decide) (by have := HC.out; omega) H1.out ?_; intro w1 HH1 HT1)
      have HN1 : Hid (∀ j u, ([.string x.key, .string x.val] : List Value)[j]? = some u → w1.cell? ((⟨gx, 0, none⟩ : Addr).add j) = some u) := by
        intro j u hj
        rw [add_none, Nat.zero_add]
        exact cell_blk (L := [.string x.key, .string x.val]) (by rw [HT1.out.block gx hne']; exact HX.out) j u hj
      have HL2 : Hid ((splice L ((k + 1) * 2) cs).length = cap * 2) := by show _ = _; rw [length_splice _ _ _ (by have := HC.out; omega)]; exact hL
      have HFin := Lib.hid (ins_room L l k x hk (by omega) HT.out)
      clear HH HX HN HS hov
      go_wp2_with fail
      obtain ⟨w2, hr, HH2, HT2⟩ := run_copy_blk (P := Tryd.prog) w1 23 23 3 28 2 g (k * 2) (l.length + 1 - k) (cap - k) 1 1 28 (some ⟨g, k * 2, none⟩) (some ⟨gx, 0, none⟩) (splice L ((k + 1) * 2) cs) [.string x.key, .string x.val] Tryd.underlying23 Tryd.sizeLab
        (by rw [show Nat.min 1 (l.length + 1 - k) = 1 from Nat.min_eq_left (by omega)]; rfl) HH1.out (fun _ => ⟨rfl, _, rfl, HN1.out⟩) (by decide) (by have := HL2.out; simp; omega) HO.out
      rw [hr]
      have HB := Lib.hid (HT2.below (HT1.out.below ((Below.refl base w).drew) hb) hb)
      have HF := Lib.hid (OwnLabs.mk (l := insLab l k x) (base := base) (cap := cap) hb HH2 (by rw [HL.out]; omega) hm0.out (by rw [length_splice _ _ _ (by have := HL2.out; simp; omega)]; exact HL2.out) (by rw [HCS.out]; exact HFin.out))
      rw [HL.out] at HF
      clear hr HH2 HT2 HH1 HT1 HFin
      go_wp2_with fail
      go_ret
      exact ⟨⟨_, rfl, HF.out⟩, HB.out⟩
    · obtain rfl : cap = l.length := by omega
      have hxs : Hid (∀ j u, ((labCells l).take (k * 2))[j]? = some u → w.cell? ⟨g, j, none⟩ = some u) := by
        intro j u hj
        refine cell_blk HH.out j u ?_
        rw [← HT.out, List.take_take, List.getElem?_take] at hj
        split at hj
        · exact hj
        · cases hj
      have hxl : Hid (((labCells l).take (k * 2)).length = k * 2) := by show _ = _; rw [List.length_take, labCells_len]; omega
      obtain ⟨m, hm2⟩ : ∃ m, m = l.length + 1 - k := ⟨_, rfl⟩
      have hm1 : (l.length : Int) + 1 - (k : Int) = (m : Int) := by omega
      have hme := Lib.hid hm2
      have hm3 : 0 < m := by omega
      have hm4 : m ≤ 1001 := by omega
      clear hm2
      go_enter Tryd.func16, Tryd.ntmps16
      go_wp2_with (at_builtin; (refine wpList_append_zeros_grow rfl _ _ 23 3 rfl 28 i0 _ 2 32 Tryd.underlying23 .i64 (by kernel_rfl) hi hz0 hz1 hz2 rfl (by decide) (by decide) g k l.length m .i64 rfl rfl ((labCells l).take (k * 2)) hxl.out hxs.out (by have := hme.out; omega) (by omega) (by omega) ?_); intro C R w1 hC HCm HRl HR1 HRt HB1 HSz)
      obtain ⟨w2, hr, HH2, HT2⟩ := run_copy_blk (P := Tryd.prog) w1 23 23 3 28 2 w.heap.size (k * 2) m (C - k) 1 1 28 (some ⟨w.heap.size, k * 2, none⟩) (some ⟨gx, 0, none⟩) R [.string x.key, .string x.val] Tryd.underlying23 Tryd.sizeLab
        (by rw [show Nat.min 1 m = 1 from Nat.min_eq_left (by omega)]; rfl) HR1.out (fun _ => ⟨rfl, _, rfl, fun j u hj => cell_later HB1.out (HN.out j u hj)⟩) (by decide) (by have := HRl.out; simp; omega) HO.out
      rw [hr]
      have HG1 : Hid (w2.heap[g]? = some (.cells L.toArray 28 (0, 0))) := by
        show _ = _
        rw [HT2.block g (by omega), HB1.out.block g hg]; exact HH.out
      have hq1 : 2 ≤ m := by have := hme.out; omega
      have hq2 : k + m - (k + 1) = m - 1 := by omega
      have hq3 : (l.length - k).min (m - 1) = l.length - k := by have := hme.out; show min _ _ = _; omega
      have hq4 : (0 : Int) ≤ (k : Int) + 1 := by omega
      have hq9 : IntKind.i64.wrap ((k : Int) + 1) = (k : Int) + 1 := IntWalk.i64_in _ (by omega)
      have hq10 : ¬ (C = k + 1) := by have := hme.out; omega
      have hq5 : (k : Int) + 1 ≤ (k : Int) + (m : Int) := by omega
      have hq6 : ((k : Int) + 1).toNat = k + 1 := by omega
      have hq7 : k + 1 ≤ C := by omega
      have hq8 : k + 1 ≤ k + m := by omega
      have HL2 : Hid ((splice R (k * 2) [.string x.key, .string x.val]).length = C * 2) := by show _ = _; rw [length_splice _ _ _ (by have := HRl.out; simp; omega)]; exact HRl.out
      have HFin := Lib.hid (ins_grow R l k x hk (by have := HRl.out; have := hme.out; omega) HRt.out)
      have HS1 := Lib.hid (HS.out w2 HG1.out)
      have HH2' := Lib.hid HH2
      have HT2' := Lib.hid HT2
      clear HH hr HN HX HS HH2 HT2
      go_wp2_with fail
      go_region_law (refine step_copy_blk rfl (.tmp 50) (.tmp 53) 23 23 rfl 28 Tryd.underlying23 2 Tryd.sizeLab w.heap.size ((k + 1) * 2) (m - 1) (C - (k + 1)) (l.length - k) (l.length - k) 28 (some ⟨w.heap.size, (k + 1) * 2, none⟩) (some ⟨g, k * 2, none⟩) (by simp [Act.eval, Act.put]) (by simp [Act.eval, Act.put]; omega) (splice R (k * 2) [.string x.key, .string x.val]) cs (by rw [hq3]; exact HC.out) HH2'.out (fun _ => ⟨rfl, _, rfl, HS1.out⟩) (by decide) (by have := HL2.out; have := HC.out; omega) H1.out ?_; intro w3 HH3 HT3)
      have HB := Lib.hid (HT3.out.below ((HT2'.out.below (HB1.out.mono hbase) hbase).drew) hbase)
      have HX := Lib.hid (OwnLabs.mk (l := insLab l k x) (base := base) (cap := C) hbase HH3.out (by rw [HL.out]; have := hme.out; omega) HCm.out (by rw [length_splice _ _ _ (by have := HL2.out; have := HC.out; omega)]; exact HL2.out) (by rw [HCS.out]; exact HFin.out))
      rw [HL.out, ← show k + m = l.length + 1 from by have := hme.out; omega] at HX
      clear HH3 HT3 HS1 HH2' HT2' HFin
      go_wp2_with fail
      go_ret
      exact ⟨⟨_, rfl, HX.out⟩, HB.out⟩
end Go.Proofs.YtpccgdlgfblaeaaDoor
