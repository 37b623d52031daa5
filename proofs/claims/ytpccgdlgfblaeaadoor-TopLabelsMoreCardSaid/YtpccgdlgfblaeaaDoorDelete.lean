/- slices.Delete of one label, walked. -/
import Derived.Test.YtpccgdlgfblaeaaDoorClone
import Derived.Deep.RegionLaw
import Derived.IntWalk
namespace Go.Proofs.YtpccgdlgfblaeaaDoor
open Go.RowKit Go.Proofs
/-- What is owned and not empty is a block known whole. -/
theorem OwnLabs.block {w : World} {base : Nat} {v : Value} {l : List Lab} (h : OwnLabs w base v l) (h0 : 0 < l.length) :
    ∃ (g cap : Nat) (L : List Value), v = .slice (some ⟨g, 0, none⟩) l.length cap ∧ base ≤ g ∧ g < w.heap.size ∧ w.heap[g]? = some (.cells L.toArray 28 (0, 0)) ∧ l.length ≤ cap ∧ cap ≤ maxLen ∧ L.length = cap * 2 ∧ L.take (l.length * 2) = labCells l := by
  obtain ⟨hlen, h2⟩ := h
  rcases h2 with ⟨rfl, h1⟩ | ⟨g, cap, cur, rfl, hb, hh, hc, hm, hsz, ht⟩
  · omega
  · exact ⟨g, cap, cur.toList, rfl, hb, (Array.getElem?_eq_some_iff.1 hh).1, by simpa using hh, hc, hm, by simpa using hsz, ht⟩
theorem OwnLabs.mk {w : World} {base g cap : Nat} {L : List Value} {l : List Lab} (hb : base ≤ g) (hh : w.heap[g]? = some (.cells L.toArray 28 (0, 0))) (hc : l.length ≤ cap) (hm : cap ≤ maxLen) (hL : L.length = cap * 2) (ht : L.take (l.length * 2) = labCells l) :
    OwnLabs w base (.slice (some ⟨g, 0, none⟩) l.length cap) l :=
  ⟨labCells_len l, .inr ⟨g, cap, L.toArray, rfl, hb, hh, hc, hm, by simpa using hL, by simpa using ht⟩⟩
theorem take_splice_same {α : Type} (L cs : List α) (off n : Nat) (h : off + cs.length = n) (hl : n ≤ L.length) : (splice L off cs).take n = L.take off ++ cs := by
  subst h
  unfold splice
  rw [← List.append_assoc, List.take_append_of_le_length (by simp; omega), List.take_of_length_le (by simp; omega)]
theorem take_splice_before {α : Type} (L cs : List α) (off n : Nat) (h : n ≤ off) (hl : off ≤ L.length) : (splice L off cs).take n = L.take n := by
  unfold splice
  rw [List.take_append_of_le_length (by simp; omega), List.take_take, Nat.min_eq_left h]
theorem labCells_drop (l : List Lab) (k : Nat) : (labCells l).drop (k * 2) = labCells (l.drop k) := by
  induction k generalizing l with
  | zero => simp
  | succ k ih =>
    cases l with
    | nil => simp [labCells]
    | cons x l => rw [show (k + 1) * 2 = k * 2 + 1 + 1 from by omega]; simp [labCells, ih]
theorem labCells_take (l : List Lab) (k : Nat) : (labCells l).take (k * 2) = labCells (l.take k) := by
  induction k generalizing l with
  | zero => simp [labCells]
  | succ k ih =>
    cases l with
    | nil => simp [labCells]
    | cons x l => rw [show (k + 1) * 2 = k * 2 + 1 + 1 from by omega]; simp [labCells, ih]
theorem Tryd.sizeLab : (Tryd.prog.info? 28).map (·.size) = some 2 := by kernel_rfl
theorem Tryd.zeroLab (w : World) : (zeroValue 28).run Tryd.prog w = .ok (.agg #[.string ⟨#[]⟩, .string ⟨#[]⟩]) w := by kernel_rfl
theorem zeroTwo : (Builtin.zeroCells (Value.agg #[.string ⟨#[]⟩, .string ⟨#[]⟩]).cells 1).toList = [.string ⟨#[]⟩, .string ⟨#[]⟩] := by kernel_rfl
set_option maxHeartbeats 2000000 in
theorem deleteLab_calls (l : List Lab) (v : Value) (k base : Nat) (w : World) (hv : OwnLabs w base v l) (hk : k < l.length) :
    Calls Tryd.prog 11 #[v, .int .i64 (k : Int), .int .i64 ((k : Int) + 1)] w fun e w' => ∃ v', e = .returned v' ∧ OwnLabs w' base v' (l.eraseIdx k) ∧ Below base w w' := by
  obtain ⟨g, cap, L, rfl, hb, hg, hh, hc, hm, hL, ht⟩ := hv.block (by omega)
  have hm0 := Lib.hid hm
  unfold maxLen at hm
  have hm' : cap ≤ 9223372036854775807 := by omega
  obtain ⟨cs, hcs⟩ : ∃ cs, cs = (labCells l).drop ((k + 1) * 2) := ⟨_, rfl⟩
  have hcl : cs.length = (l.length - (k + 1)) * 2 := by rw [hcs, List.length_drop, labCells_len]; omega
  have hsrc : ∀ j u, cs[j]? = some u → w.cell? (⟨g, (k + 1) * 2 + j, none⟩ : Addr) = some u := by
    intro j u hj
    refine cell_blk hh _ u ?_
    rw [hcs, List.getElem?_drop, ← ht, List.getElem?_take] at hj
    split at hj
    · exact hj
    · cases hj
  have h1 : ∀ u ∈ cs, u.oneCell' = true := fun u hu => labCells_one l u (by rw [hcs] at hu; exact List.mem_of_mem_drop hu)
  have hfin : Hid (∀ zs : List Value, (splice (splice L (0 + k * 2) cs) ((l.length - 1) * 2) zs).take ((l.eraseIdx k).length * 2) = labCells (l.eraseIdx k)) := by
    intro zs
    have hlen : (l.eraseIdx k).length = l.length - 1 := by rw [List.length_eraseIdx]; simp [hk]
    have h2 : (splice L (0 + k * 2) cs).length = L.length := length_splice _ _ _ (by omega)
    rw [hlen, take_splice_before _ _ _ _ (Nat.le_refl _) (by omega), take_splice_same _ _ _ _ (by omega) (by omega), List.eraseIdx_eq_take_drop_succ, labCells_append, ← labCells_take, ← labCells_drop, hcs, ← ht,
      List.take_take, Nat.zero_add, Nat.min_eq_left (by omega)]
  have hlen2 : Hid (∀ zs : List Value, zs.length = 2 → (splice (splice L (0 + k * 2) cs) ((l.length - 1) * 2) zs).length = cap * 2) := by
    intro zs hz
    have h2 : (splice L (0 + k * 2) cs).length = L.length := length_splice _ _ _ (by omega)
    rw [length_splice _ _ _ (by omega), h2, hL]
  have HH := Lib.hid hh
  have HS := Lib.hid hsrc
  have HC := Lib.hid hcl
  have H1 := Lib.hid h1
  clear hh ht hv hm hcs hcl hsrc h1
  have hne : ((k : Int) == (k : Int) + 1) = false := by simp; omega
  have hkc : k ≤ cap := by omega
  have hp0 : (0 : Int) ≤ (k : Int) + 1 := by omega
  have hp1 : (k : Int) + 1 ≤ (l.length : Int) := by omega
  have hp2 : ((k : Int) + 1).toNat = k + 1 := by omega
  by_cases hcap : cap = k + 1
  · obtain rfl : cap = l.length := by omega
    have hq := Lib.hid hcap
    have hle : l.length ≤ k + 1 := by omega
    clear hcap
    go_enter Tryd.func11, Tryd.ntmps11
    go_wp2_with fail
    go_region_law (refine step_append_blk rfl (.tmp 22) (.tmp 25) 23 rfl 28 Tryd.underlying23 2 Tryd.sizeLab g 0 k l.length (l.length - (k + 1)) (l.length - (k + 1)) 28 (some ⟨g, 0, none⟩) (by simp [Act.eval, Act.put]) (by have := hq.out; simp [Act.eval, Act.put]; omega) L cs HC.out HH.out (fun hp => absurd hp (by have := HC.out; omega)) (by decide) (by omega) (by have := HC.out; omega) H1.out ?_; intro w1 HH1 HT1)
    go_wp2_with fail
    have ek : l.length - 1 = k := by omega
    have HF := Lib.hid (hfin.out)
    have HL := Lib.hid (hlen2.out)
    rw [ek] at HF HL
    obtain ⟨w2, hr, HH2, HT2⟩ := run_clear_blk (P := Tryd.prog) w1 23 0 28 2 g (k * 2) 1 1 28 _ (splice L (0 + k * 2) cs) Tryd.underlying23 (Tryd.zeroLab _) rfl HH1.out (by decide)
      (by rw [length_splice _ _ _ (by have := HC.out; omega)]; omega) (by rw [zeroTwo]; intro u hu; simp at hu; subst hu; rfl)
    rw [hr]
    have hlen : (l.eraseIdx k).length = k := by rw [List.length_eraseIdx]; simp [hk]; omega
    have HX := Lib.hid (OwnLabs.mk (l := l.eraseIdx k) hb HH2 (by omega) hm0.out (HL.out _ (by rw [zeroTwo]; rfl)) (HF.out _))
    have HB := Lib.hid ((HT1.out.trans HT2).below (B := base) (w0 := w) ((Below.refl _ w).drew) hb)
    rw [hlen, hq.out] at HX
    clear hr HH2 HT2 HH1 HT1 HH HS HF HL ek
    go_wp2_with fail
    go_ret
    exact ⟨_, rfl, HX.out, HB.out⟩
  · go_enter Tryd.func11, Tryd.ntmps11
    go_wp2_with fail
    go_region_law (refine step_append_blk rfl (.tmp 22) (.tmp 25) 23 rfl 28 Tryd.underlying23 2 Tryd.sizeLab g 0 k cap (l.length - (k + 1)) (cap - (k + 1)) 28 (some ⟨g, (k + 1) * 2, none⟩) (by simp [Act.eval, Act.put]) (by simp [Act.eval, Act.put]) L cs HC.out HH.out (fun _ => ⟨_, rfl, fun j u hj => by rw [add_none]; exact HS.out j u hj⟩) (by decide) (by omega) (by have := HC.out; omega) H1.out ?_; intro w1 HH1 HT1)
    go_wp2_with fail
    rw [show k + (l.length - (k + 1)) = l.length - 1 from by omega, show l.length - (l.length - 1) = 1 from by omega]
    obtain ⟨w2, hr, HH2, HT2⟩ := run_clear_blk (P := Tryd.prog) w1 23 0 28 2 g ((l.length - 1) * 2) 1 (cap - (l.length - 1)) 28 _ (splice L (0 + k * 2) cs) Tryd.underlying23 (Tryd.zeroLab _) rfl HH1.out (by decide)
      (by rw [length_splice _ _ _ (by have := HC.out; omega)]; omega) (by rw [zeroTwo]; intro u hu; simp at hu; subst hu; rfl)
    rw [hr]
    have HX := Lib.hid (OwnLabs.mk (l := l.eraseIdx k) hb HH2 (by rw [List.length_eraseIdx]; simp [hk]; omega) hm0.out (hlen2.out _ (by rw [zeroTwo]; rfl)) (hfin.out _))
    have HB := Lib.hid ((HT1.out.trans HT2).below (B := base) (w0 := w) ((Below.refl _ w).drew) hb)
    have hlen : (l.eraseIdx k).length = l.length - 1 := by rw [List.length_eraseIdx]; simp [hk]
    rw [hlen] at HX
    clear hr HH2 HT2 HH1 HT1 HH HS
    go_wp2_with fail
    go_ret
    exact ⟨_, rfl, HX.out, HB.out⟩
end Go.Proofs.YtpccgdlgfblaeaaDoor
