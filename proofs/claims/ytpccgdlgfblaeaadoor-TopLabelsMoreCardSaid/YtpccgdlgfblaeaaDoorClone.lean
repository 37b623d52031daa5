/- A slice of labels of the call's own; slices.Clone at labels, walked. -/
import Derived.Test.YtpccgdlgfblaeaaDoorMatch
import Derived.Test.YtpccgdlgfblaeaaDoorRow
namespace Go.Proofs.YtpccgdlgfblaeaaDoor
open Go.RowKit Go.Proofs
def labCells : List Lab → List Value
  | [] => []
  | x :: l => .string x.key :: .string x.val :: labCells l
theorem labCells_len (l : List Lab) : (labCells l).length = l.length * 2 := by
  induction l with
  | nil => rfl
  | cons x l ih => simp only [labCells, List.length_cons, ih]; omega
theorem labCells_append (l m : List Lab) : labCells (l ++ m) = labCells l ++ labCells m := by
  induction l with
  | nil => rfl
  | cons x l ih => simp [labCells, ih]
theorem labCells_get (l : List Lab) (i : Nat) (x : Lab) (h : l[i]? = some x) : (labCells l)[i * 2]? = some (.string x.key) ∧ (labCells l)[i * 2 + 1]? = some (.string x.val) := by
  induction l generalizing i with
  | nil => simp at h
  | cons y l ih =>
    cases i with
    | zero => simp at h; subst h; exact ⟨rfl, rfl⟩
    | succ i =>
      have := ih i (by simpa using h)
      rw [show (i + 1) * 2 = i * 2 + 1 + 1 from by omega, show i * 2 + 1 + 1 + 1 = i * 2 + 1 + 1 + 1 from rfl]
      exact ⟨by simpa [labCells] using this.1, by simpa [labCells] using this.2⟩
theorem labCells_one (l : List Lab) : ∀ u ∈ labCells l, u.oneCell' = true := by
  induction l with
  | nil => simp [labCells]
  | cons x l ih =>
    intro u hu
    simp only [labCells, List.mem_cons] at hu
    rcases hu with rfl | rfl | hu
    · rfl
    · rfl
    · exact ih u hu
def smallLabs (l : List Lab) : Prop := ∀ x ∈ l, small x.key ∧ small x.val
/-- The cells of labels that lie somewhere. -/
theorem LabsAt.cells {w : World} {a : Option Addr} {l : List Lab} (h : LabsAt w a l) (h0 : 0 < l.length) : ∃ b off, a = some ⟨b, off, none⟩ ∧ ∀ j v, (labCells l)[j]? = some v → w.cell? ((⟨b, off, none⟩ : Addr).add j) = some v := by
  obtain ⟨b, off, e, hc⟩ := h.2 h0
  refine ⟨b, off, e, fun j v hj => ?_⟩
  rw [add_none]
  have hlt : j < l.length * 2 := by rw [← labCells_len]; exact (List.getElem?_eq_some_iff.1 hj).1
  have hx : l[j / 2]? = some l[j / 2] := List.getElem?_eq_getElem (by omega)
  obtain ⟨h1, h2, -, -⟩ := hc (j / 2) _ hx
  obtain ⟨g1, g2⟩ := labCells_get l (j / 2) _ hx
  rcases Nat.mod_two_eq_zero_or_one j with hm | hm
  · have e : j = j / 2 * 2 := by omega
    rw [← e] at g1 h1
    rw [g1] at hj; cases hj; exact h1
  · have e : j = j / 2 * 2 + 1 := by omega
    rw [← e] at g2
    rw [show off + j / 2 * 2 + 1 = off + j from by omega] at h2
    rw [g2] at hj; cases hj; exact h2
theorem LabsAt.smalls {w : World} {a : Option Addr} {l : List Lab} (h : LabsAt w a l) : smallLabs l := by
  intro x hx
  obtain ⟨j, hj, rfl⟩ := List.mem_iff_getElem.1 hx
  obtain ⟨b, off, -, hc⟩ := h.2 (by omega)
  obtain ⟨-, -, s⟩ := hc j _ (List.getElem?_eq_getElem hj)
  exact s
def OwnLabs (w : World) (base : Nat) (v : Value) (l : List Lab) : Prop := w.ownsRow base 28 2 v l.length (labCells l)
/-- What is owned can be read. -/
theorem OwnLabs.at_ {w : World} {base : Nat} {v : Value} {l : List Lab} (h : OwnLabs w base v l) (hs : smallLabs l) (hl : l.length ≤ 9223372036854775807) : ∃ a c, v = .slice a l.length c ∧ l.length ≤ c ∧ LabsAt w a l := by
  obtain ⟨hlen, h2⟩ := h
  rcases h2 with ⟨rfl, h0⟩ | ⟨g, cap, cur, rfl, hb, hh, hc, hm, hsz, ht⟩
  · exact ⟨none, 0, by rw [h0], by omega, by omega, fun hp => by omega⟩
  · refine ⟨_, cap, rfl, hc, hl, fun _ => ⟨g, 0, rfl, fun i x hx => ?_⟩⟩
    have hcell : ∀ j u, (labCells l)[j]? = some u → w.cell? ⟨g, j, none⟩ = some u := by
      intro j u hj
      refine cell_blk (L := cur.toList) (by simpa using hh) j u ?_
      rw [← ht, List.getElem?_take] at hj
      split at hj
      · exact hj
      · cases hj
    obtain ⟨g1, g2⟩ := labCells_get l i x hx
    have hx' : x ∈ l := List.mem_of_getElem? hx
    refine ⟨by rw [Nat.zero_add]; exact hcell _ _ g1, ?_, hs x hx'⟩
    rw [Nat.zero_add]
    exact hcell _ _ g2
theorem Tryd.infoLab : (Tryd.prog.info? 28).map (fun i => (i.zero, i.size, i.bytes)) = some (some (.agg #[.string ⟨#[]⟩, .string ⟨#[]⟩]), 2, 32) := by kernel_rfl
set_option maxHeartbeats 2000000 in
theorem cloneLab_calls (l : List Lab) (a : Option Addr) (c : Nat) (w : World) (hl : LabsAt w a l) (hc : l.length ≤ c) (h10 : l.length ≤ 1000) :
    Calls Tryd.prog 8 #[.slice a l.length c] w fun e w' => ∃ v, e = .returned v ∧ OwnLabs w' w.heap.size v l ∧ Below w.heap.size w w' := by
  have hlen := hl.1
  cases a with
  | none =>
    have h0 : l.length = 0 := by
      rcases Nat.eq_zero_or_pos l.length with h | h
      · exact h
      · obtain ⟨b, off, e, -⟩ := hl.2 h; cases e
    obtain rfl : l = [] := List.eq_nil_of_length_eq_zero h0
    have hq := fun w => Lib.run_eql_slice_nil (P := Tryd.prog) w 23 28 none 0 c 0 0 Tryd.underlying23
    go_enter Tryd.func8, Tryd.ntmps8
    go_wp2_with fail
    go_ret
    exact ⟨_, rfl, World.ownsRow_nil _ _ _ _, Below.refl _ _⟩
  | some ad =>
    have hq := fun w => Lib.run_eql_slice_nil (P := Tryd.prog) w 23 28 (some ad) l.length c 0 0 Tryd.underlying23
    have hcells : ∀ W, Below w.heap.size w W → ∀ j u, (labCells l)[j]? = some u → W.cell? (ad.add j) = some u := by
      intro W hW j u hj
      have h0 : 0 < l.length := by
        have := (List.getElem?_eq_some_iff.1 hj).1; rw [labCells_len] at this; omega
      obtain ⟨b, off, e, hcs⟩ := (hl.later hW).cells h0
      cases e
      exact hcs j u hj
    have HCELL := Lib.hid hcells
    obtain ⟨i0, hi, hz0, hz1, hz2⟩ := info_parts Tryd.infoLab
    have B1 : Below w.heap.size w (w.alloc (.cells #[] 28)) := (Below.refl _ w).alloc (Nat.le_refl _) _
    have HC := Lib.hid (HCELL.out _ B1)
    clear hcells hl
    go_enter Tryd.func8, Tryd.ntmps8
    go_wp2_with (at_builtin; refine wpList_append_own _ rfl _ _ 23 rfl w.heap.size 28 i0 _ 2 32 Tryd.underlying23 hi hz0 hz1 hz2 rfl (by decide) _ 0 [] rfl (World.ownsRow_made w #[] 0 (Nat.le_refl _) (by simp) rfl) ad l.length c (labCells l) rfl (labCells_len l) HC.out (labCells_one l) (by unfold maxLen; omega) (by omega) (by simp) ?_; intro v' w1 hown' hgrow _)
    have hg : (w.alloc (.cells #[] 28)).grownBy w1 (some w.heap.size) := hgrow
    have HB := Lib.hid (B1.grown hg (by simp) (by intro k hk; cases hk; exact Nat.le_refl _))
    simp only [Nat.zero_add, List.nil_append] at hown'
    have HO := Lib.hid hown'
    clear hgrow hg hown'
    go_ret
    exact ⟨_, rfl, HO.out, HB.out⟩
end Go.Proofs.YtpccgdlgfblaeaaDoor
