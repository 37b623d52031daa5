/- The arguments opened: labels, parts. -/
import Derived.Test.YtpccgdlgfblaeaaDoorMem
import Derived.Deep.SlicePairs
import Derived.Deep.Strs
import Derived.WideShapes
namespace Go.Proofs.YtpccgdlgfblaeaaDoor
open Go.RowKit Go.Proofs Go.Deep
section
variable {H : Type} {enc : TypeId × Value → H} {w : World} {base : Nat} {spare : Nat → Bool} {held : Bool}
theorem add_none' (b o j : Nat) : (⟨b, o, none⟩ : Addr).add j = ⟨b, o + j, none⟩ := by unfold Addr.add; split <;> simp_all
theorem plain_of_cell {a : Addr} {v : Value} (h : w.cell? a = some v) : a.spot = none := by
  unfold World.cell? at h
  split at h
  · split at h
    · cases h
    · rename_i hs; cases hq : a.spot <;> simp_all
  · cases h
/-- A slice's places are plain where it has a first element. -/
theorem plain_slice {a : Addr} {n s : Nat} (hn : 0 < n) (h : ∀ i, i < n → ∃ v, w.cell? (a.add (i * s)) = some v) : a = ⟨a.block, a.off, none⟩ := by
  obtain ⟨v, hv⟩ := h 0 hn
  rw [Nat.zero_mul] at hv
  have := plain_of_cell hv
  have e : a.add 0 = a := by unfold Addr.add; simp
  rw [e] at this
  cases a
  simp_all
theorem list_of {α : Type} {n : Nat} (f : Nat → α) : ∃ l : List α, l.length = n ∧ ∀ i x, l[i]? = some x → i < n ∧ x = f i := by
  refine ⟨(List.range n).map f, by simp, fun i x h => ?_⟩
  rw [List.getElem?_map] at h
  by_cases hi : i < n
  · rw [List.getElem?_range hi] at h
    exact ⟨hi, by simpa using h.symm⟩
  · rw [List.getElem?_eq_none (by simp; omega)] at h
    cases h
theorem small_of {s : ByteArray} (h : s.size ≤ maxLen) : small s := by unfold small; unfold maxLen at h; omega
theorem open_strsAt {fuel : Nat} {v : Value} {x : DataW H × List MemPlace} (h : DataW.trod enc Tryd.prog w base spare held fuel 30 [v] = some x) :
    ∃ (a : Option Addr) (l : List ByteArray) (c : Nat), v = .slice a l.length c ∧ l.length ≤ c ∧ StrsAt w a l := by
  rcases open_strs Tryd.underlying30 Tryd.underlying9 (by kernel_rfl) h with ⟨h1, -⟩ | ⟨a, len, cap, m, S, h1, -, hl, hm, hmm, -, hx⟩
  · simp only [List.cons.injEq, and_true] at h1
    exact ⟨none, [], 0, h1, Nat.le_refl _, by simp [StrsAt]⟩
  · simp only [List.cons.injEq, and_true] at h1
    obtain ⟨l, hlen, hg⟩ := list_of (n := len) S
    have hle : len ≤ m := by rw [hmm]; split <;> omega
    refine ⟨some a, l, cap, by rw [h1, hlen], by omega, by rw [hlen]; unfold maxLen at hm; omega, fun hp => ?_⟩
    have hpl := plain_slice (w := w) (a := a) (s := 1) (n := m) (by omega) (fun i hi => ⟨_, by rw [Nat.mul_one]; exact (hx i hi).1⟩)
    refine ⟨a.block, a.off, by rw [← hpl], fun i x hi => ?_⟩
    obtain ⟨hi', rfl⟩ := hg i x hi
    have := hx i (by omega)
    rw [hpl, add_none'] at this
    exact ⟨this.1, small_of this.2⟩
theorem open_labsAt {fuel : Nat} {v : Value} {x : DataW H × List MemPlace} (h : DataW.trod enc Tryd.prog w base spare held fuel 23 [v] = some x) :
    ∃ (a : Option Addr) (l : List Lab) (c : Nat), v = .slice a l.length c ∧ l.length ≤ c ∧ LabsAt w a l := by
  rcases open_slice_pairs Tryd.underlying23 Tryd.underlying28 (by kernel_rfl) rfl rfl (by kernel_rfl) (by kernel_rfl) h with ⟨h1, -⟩ | ⟨a, len, cap, m, n, V0, V1, D0, D1, P0, P1, h1, -, hl, hm, hmm, -, hx⟩
  · simp only [List.cons.injEq, and_true] at h1
    exact ⟨none, [], 0, h1, Nat.le_refl _, by simp [LabsAt]⟩
  · simp only [List.cons.injEq, and_true] at h1
    have each : ∀ i, i < m → ∃ y : Lab, V0 i = .string y.key ∧ V1 i = .string y.val ∧ small y.key ∧ small y.val := fun i hi => by
      obtain ⟨-, -, h3, h4⟩ := hx i hi
      obtain ⟨s, e1, -, b1⟩ := DataW.trod_string Tryd.underlying9 h3
      obtain ⟨s', e2, -, b2⟩ := DataW.trod_string Tryd.underlying9 h4
      exact ⟨⟨s, s'⟩, by simpa using e1, by simpa using e2, small_of b1, small_of b2⟩
    obtain ⟨S, hS⟩ := (show ∃ S : Nat → Lab, ∀ i, i < m → V0 i = .string (S i).key ∧ V1 i = .string (S i).val ∧ small (S i).key ∧ small (S i).val from by
      haveI : Inhabited Lab := ⟨⟨⟨#[]⟩, ⟨#[]⟩⟩⟩
      exact choose_lt each)
    obtain ⟨l, hlen, hg⟩ := list_of (n := len) S
    have hle : len ≤ m := by rw [hmm]; split <;> omega
    refine ⟨some a, l, cap, by rw [h1, hlen], by omega, by rw [hlen]; unfold maxLen at hm; omega, fun hp => ?_⟩
    have hpl := plain_slice (w := w) (a := a) (s := 2) (n := m) (by omega) (fun i hi => ⟨_, (hx i hi).1⟩)
    refine ⟨a.block, a.off, by rw [← hpl], fun i x hi => ?_⟩
    obtain ⟨hi', rfl⟩ := hg i x hi
    have h1 := hx i (by omega)
    have h2 := hS i (by omega)
    rw [hpl, add_none', add_none', h2.1, h2.2.1] at h1
    exact ⟨h1.1, by have := h1.2.1; rwa [← Nat.add_assoc] at this, h2.2.2.1, h2.2.2.2⟩
structure ReqPlace where
  r : Req
  a : Option Addr
  c : Nat
instance : Inhabited ReqPlace := ⟨⟨⟨⟨#[]⟩, 0, []⟩, none, 0⟩⟩
theorem open_reqsAt {fuel : Nat} {v : Value} {x : DataW H × List MemPlace} (h : DataW.trod enc Tryd.prog w base spare held fuel 22 [v] = some x) :
    ∃ (a : Option Addr) (l : List Req) (c : Nat), v = .slice a l.length c ∧ l.length ≤ c ∧ ReqsAt w a l := by
  rcases open_slice Tryd.underlying22 h with ⟨h1, -⟩ | ⟨a, len, cap, m, n, D, Pl, h1, -, hl, hm, hmm, -, hx⟩
  · simp only [List.cons.injEq, and_true] at h1
    exact ⟨none, [], 0, h1, Nat.le_refl _, by simp [ReqsAt]⟩
  · simp only [List.cons.injEq, and_true] at h1
    have each : ∀ i, i < m → ∃ y : ReqPlace, w.cell? (a.add (i * 3)) = some (.string y.r.key) ∧ w.cell? ((a.add (i * 3)).add 1) = some (.int .i64 y.r.kind) ∧ w.cell? ((a.add (i * 3)).add 2) = some (.slice y.a y.r.vals.length y.c) ∧
        y.r.vals.length ≤ y.c ∧ StrsAt w y.a y.r.vals ∧ small y.r.key := fun i hi => by
      obtain ⟨cs, h1, h2⟩ := hx i hi
      rw [show Tryd.prog.cellsOf 32 = 3 from by kernel_rfl] at h1
      obtain ⟨-, hlen, hcell⟩ := World.cells?_some h1
      obtain ⟨y0, y1, y2, k, -, -, g0, g1, g2⟩ := trod_struct3 Tryd.underlying32 h2
      match cs, hlen with
      | [v0, v1, v2], _ =>
        have c0 := hcell 0 (by omega)
        have c1 := hcell 1 (by omega)
        have c2 := hcell 2 (by omega)
        rw [show Tryd.prog.cellsOf 9 = 1 from by kernel_rfl] at g0
        rw [show Tryd.prog.cellsOf 3 = 1 from by kernel_rfl] at g1
        rw [show Tryd.prog.cellsOf 30 = 1 from by kernel_rfl] at g2
        simp at g0 g1 g2
        obtain ⟨s, e1, -, b1⟩ := DataW.trod_string Tryd.underlying9 g0
        obtain ⟨z, e2, -, -⟩ := DataW.trod_int Tryd.underlying3 g1
        obtain ⟨a', l', c', rfl, hc', hs⟩ := open_strsAt g2
        simp only [List.cons.injEq, and_true] at e1 e2
        subst e1 e2
        exact ⟨⟨⟨s, z, l'⟩, a', c'⟩, by have e : (a.add (i * 3)).add 0 = a.add (i * 3) := by unfold Addr.add; simp
                                        rw [e] at c0; simpa using c0, by simpa using c1, by simpa using c2, hc', hs, small_of b1⟩
    obtain ⟨S, hS⟩ := choose_lt each
    obtain ⟨l, hlen, hg⟩ := list_of (n := len) fun i => (S i).r
    have hle : len ≤ m := by rw [hmm]; split <;> omega
    refine ⟨some a, l, cap, by rw [h1, hlen], by omega, by rw [hlen]; unfold maxLen at hm; omega, fun hp => ?_⟩
    have hpl := plain_slice (w := w) (a := a) (s := 3) (n := m) (by omega) (fun i hi => ⟨_, (hS i hi).1⟩)
    refine ⟨a.block, a.off, by rw [← hpl], fun i x hi => ?_⟩
    obtain ⟨hi', rfl⟩ := hg i x hi
    obtain ⟨k0, k1, k2, k3, k4, k5⟩ := hS i (by omega)
    rw [hpl] at k0 k1 k2
    simp only [add_none'] at k0 k1 k2
    exact ⟨(S i).a, (S i).c, k0, k1, k2, k3, k4, k5⟩
end
end Go.Proofs.YtpccgdlgfblaeaaDoor
