/- Blocks of cells known whole: copy, append within the room, clear; whatever the element's size. -/
import Derived.Laws.CopyOwn
import Derived.Laws.MakeOwn
import Derived.Laws.OwnMore
import Derived.WalkKit
namespace Go.Proofs.YtpccgdlgfblaeaaDoor
open Go.RowKit Go.Proofs
/-- Block g alone has turned. -/
structure Turned (w w' : World) (g : Nat) : Prop where
  os : w'.os = w.os
  tape : w'.tape = w.tape
  output : w'.output = w.output
  size : w'.heap.size = w.heap.size
  block : ∀ k, k ≠ g → w'.heap[k]? = w.heap[k]?
theorem Turned.refl (w : World) (g : Nat) : Turned w w g := ⟨rfl, rfl, rfl, rfl, fun _ _ => rfl⟩
theorem Turned.trans {a b c : World} {g : Nat} (h : Turned a b g) (k : Turned b c g) : Turned a c g :=
  ⟨k.os.trans h.os, k.tape.trans h.tape, k.output.trans h.output, k.size.trans h.size, fun i hi => (k.block i hi).trans (h.block i hi)⟩
theorem Turned.below {B : Nat} {w0 w w' : World} {g : Nat} (h : Turned w w' g) (hb : Below B w0 w) (hg : B ≤ g) : Below B w0 w' :=
  hb.trans ⟨h.os, h.tape, h.output, Nat.le_of_eq h.size.symm, fun k hk => h.block k (by omega)⟩
theorem turned_setRow (w : World) (g : Nat) (cs : Array Value) : Turned w (w.setRow g cs) g := ⟨rfl, rfl, rfl, by simp [World.setRow], fun k hk => setRow_other w g k cs hk⟩
theorem add_none (b o j : Nat) : (⟨b, o, none⟩ : Addr).add j = ⟨b, o + j, none⟩ := by unfold Addr.add; split <;> simp_all
/-- A block known whole, cell by cell. -/
theorem cell_blk {w : World} {g : Nat} {L : List Value} {t : TypeId} (h : w.heap[g]? = some (.cells L.toArray t (0, 0))) (j : Nat) (v : Value) (hj : L[j]? = some v) : w.cell? ⟨g, j, none⟩ = some v := by
  unfold World.cell?
  simp only [h]
  simpa using hj
theorem splice_nil {α : Type} (L : List α) (off : Nat) : splice L off [] = L := by simp [splice]
section
variable {P : Program}
theorem run_copy_blk (w : World) (dT sT ty elem : TypeId) (s g off dLen dCap sLen sCap : Nat) (t : TypeId) (dp sp : Option Addr) (cur cs : List Value) (hu : P.underlying dT = some (.slice elem))
    (hs : (P.info? elem).map (·.size) = some s) (hn : cs.length = Nat.min sLen dLen * s) (hg : w.heap[g]? = some (.cells cur.toArray t (0, 0)))
    (hpos : 0 < cs.length → dp = some ⟨g, off, none⟩ ∧ ∃ ad, sp = some ad ∧ ∀ j v, cs[j]? = some v → w.cell? (ad.add j) = some v)
    (h0 : 0 < s) (hfit : off + cs.length ≤ cur.length) (h1 : ∀ v ∈ cs, v.oneCell' = true) :
    ∃ w', (Builtin.copy_ #[dT, sT] ty #[.slice dp dLen dCap, .slice sp sLen sCap]).run P w = .ok (goInt (Nat.min sLen dLen)) w' ∧ w'.heap[g]? = some (.cells (splice cur off cs).toArray t (0, 0)) ∧ Turned w w' g := by
  cases hq : P.info? elem with
  | none => simp [hq] at hs
  | some i =>
    have hi : i.size = s := by simpa [hq] using hs
    by_cases hc : cs.length = 0
    · obtain rfl : cs = [] := List.eq_nil_of_length_eq_zero hc
      have hm : Nat.min sLen dLen = 0 := by
        rcases Nat.mul_eq_zero.1 (by simpa using hn.symm) with h | h
        · exact h
        · omega
      refine ⟨w, ?_, by rw [splice_nil]; exact hg, Turned.refl _ _⟩
      have hl : ∀ a : Addr, (loadCells a 0).run P w = .ok #[] w := fun a => by simp [loadCells, loadCellsFrom]
      have hst : ∀ a : Addr, (storeCells a []).run P w = .ok () w := fun a => by simp [storeCells]
      cases dp with
      | none => cases sp <;> simp [Builtin.copy_, run_underlying hu, Builtin.lenOf, Builtin.firstCells, sizeOf, typeInfo, hq, hm, hl]
      | some d => cases sp <;> simp [Builtin.copy_, run_underlying hu, Builtin.lenOf, Builtin.firstCells, sizeOf, typeInfo, hq, hm, hl, hst]
    · obtain ⟨rfl, ad, rfl, hsrc⟩ := hpos (by omega)
      have hl := run_loadCells_list (P := P) w ad cs hsrc
      have hst := run_storeCells_at P g off t cs 0 cur.toArray w hg (by simpa using hfit) h1
      refine ⟨w.setRow g (splice cur off cs).toArray, ?_, setRow_heap w g _ _ t _ hg, turned_setRow w g _⟩
      rw [hn] at hl
      simp [Builtin.copy_, run_underlying hu, Builtin.lenOf, Builtin.firstCells, sizeOf, typeInfo, hq, hi, hl, hst, splice]
theorem run_append_room (w : World) (T ty elem : TypeId) (s g off sLen sCap m c : Nat) (t : TypeId) (sp : Option Addr) (cur cs : List Value) (hu : P.underlying T = some (.slice elem))
    (hs : (P.info? elem).map (·.size) = some s) (hn : cs.length = m * s) (hg : w.heap[g]? = some (.cells cur.toArray t (0, 0)))
    (hpos : 0 < cs.length → ∃ ad, sp = some ad ∧ ∀ j v, cs[j]? = some v → w.cell? (ad.add j) = some v)
    (h0 : 0 < s) (hroom : sLen + m ≤ sCap) (hfit : off + sLen * s + cs.length ≤ cur.length) (h1 : ∀ v ∈ cs, v.oneCell' = true) :
    ∃ w', (Builtin.append_ #[T, T] ty #[.slice (some ⟨g, off, none⟩) sLen sCap, .slice sp m c]).run P w = .ok (.slice (some ⟨g, off, none⟩) (sLen + m) sCap) w' ∧
      w'.heap[g]? = some (.cells (splice cur (off + sLen * s) cs).toArray t (0, 0)) ∧ Turned w w' g := by
  cases hq : P.info? elem with
  | none => simp [hq] at hs
  | some i =>
    have hi : i.size = s := by simpa [hq] using hs
    have hst := run_storeCells_at P g (off + sLen * s) t cs 0 cur.toArray w hg (by simpa using hfit) h1
    refine ⟨w.setRow g (splice cur (off + sLen * s) cs).toArray, ?_, setRow_heap w g _ _ t _ hg, turned_setRow w g _⟩
    by_cases hc : cs.length = 0
    · obtain rfl : cs = [] := List.eq_nil_of_length_eq_zero hc
      have hm : m = 0 := by
        rcases Nat.mul_eq_zero.1 (by simpa using hn.symm) with h | h
        · exact h
        · omega
      subst hm
      have hl : ∀ a : Addr, (loadCells a 0).run P w = .ok #[] w := fun a => by simp [loadCells, loadCellsFrom]
      have hst0 : ∀ a : Addr, (storeCells a []).run P w = .ok () w := fun a => by simp [storeCells]
      have hse : w.setRow g (splice cur (off + sLen * s) []).toArray = w := by rw [splice_nil]; exact setRow_self w g _ t (0, 0) hg
      rw [hse]
      cases sp <;> simp [Builtin.append_, run_underlying hu, Builtin.lenOf, Builtin.firstCells, sizeOf, typeInfo, hq, hl, hst0] <;> (intro h; omega)
    · obtain ⟨ad, rfl, hsrc⟩ := hpos (by omega)
      have hl := run_loadCells_list (P := P) w ad cs hsrc
      rw [hn] at hl
      simp [Builtin.append_, run_underlying hu, Builtin.lenOf, Builtin.firstCells, sizeOf, typeInfo, hq, hi, hl, hst, splice, hroom, add_none]
theorem run_clear_blk (w : World) (T ty elem : TypeId) (s g off n c : Nat) (t : TypeId) (z : Value) (cur : List Value) (hu : P.underlying T = some (.slice elem)) (hz : (zeroValue elem).run P w = .ok z w) (hzs : z.cells.size = s)
    (hg : w.heap[g]? = some (.cells cur.toArray t (0, 0))) (hn : 0 < n) (hfit : off + n * s ≤ cur.length) (h1 : ∀ v ∈ (Builtin.zeroCells z.cells n).toList, v.oneCell' = true) :
    ∃ w', (Builtin.clear_ #[T] ty #[.slice (some ⟨g, off, none⟩) n c]).run P w = .ok (.tuple #[]) w' ∧
      w'.heap[g]? = some (.cells (splice cur off (Builtin.zeroCells z.cells n).toList).toArray t (0, 0)) ∧ Turned w w' g := by
  have hl : (Builtin.zeroCells z.cells n).toList.length = n * s := by simp [Builtin.zeroCells, hzs]
  have hst := run_storeCells_at P g off t (Builtin.zeroCells z.cells n).toList 0 cur.toArray w hg (by rw [hl]; simpa using hfit) h1
  refine ⟨w.setRow g (splice cur off (Builtin.zeroCells z.cells n).toList).toArray, ?_, setRow_heap w g _ _ t _ hg, turned_setRow w g _⟩
  obtain ⟨m, rfl⟩ : ∃ m, n = m + 1 := ⟨n - 1, by omega⟩
  simp [Builtin.clear_, run_underlying hu, hz, hst, splice]
/-- An append within the room as one step of a region. -/
theorem step_append_blk {ops : Array Oper} {o : Oper} {a : Act} {w : World} {K : Act → World → Prop} {Q : Exit → Act → World → Prop} {E : Prop} (hgd : o.guard = none) (d x : Operand) (T : TypeId)
    (ho : o.op = .call { callee := .builtin .append, args := #[d, x], argTypes := #[T, T] }) (elem : TypeId) (hu : P.underlying T = some (.slice elem)) (s : Nat) (hs : (P.info? elem).map (·.size) = some s)
    (g off sLen sCap m c : Nat) (t : TypeId) (sp : Option Addr) (hd : a.eval d = .slice (some ⟨g, off, none⟩) sLen sCap) (hx : a.eval x = .slice sp m c)
    (cur cs : List Value) (hn : cs.length = m * s) (hg : w.heap[g]? = some (.cells cur.toArray t (0, 0)))
    (hpos : 0 < cs.length → ∃ ad, sp = some ad ∧ ∀ j v, cs[j]? = some v → w.cell? (ad.add j) = some v)
    (h0 : 0 < s) (hroom : sLen + m ≤ sCap) (hfit : off + sLen * s + cs.length ≤ cur.length) (h1 : ∀ v ∈ cs, v.oneCell' = true)
    (h : ∀ w', Hid (w'.heap[g]? = some (.cells (splice cur (off + sLen * s) cs).toArray t (0, 0))) → Hid (Turned w w' g) → K (a.put o.dst (.slice (some ⟨g, off, none⟩) (sLen + m) sCap)) w') :
    if Region.wanted o (yielded ops a.tmps) = true then Oper.wp P o a w K Q else E := by
  have hw : Region.wanted o (yielded ops a.tmps) = true := by simp [Region.wanted, hgd]
  rw [if_pos hw]
  obtain ⟨w', hr, hg', ht⟩ := run_append_room (P := P) w T o.type elem s g off sLen sCap m c t sp cur cs hu hs hn hg hpos h0 hroom hfit h1
  unfold Oper.wp
  simp [execOp, ho, resolve, invoke, builtin, hd, hx, hr, Result.andThen]
  exact h w' hg' ht
/-- A copy as one step of a region. -/
theorem step_copy_blk {ops : Array Oper} {o : Oper} {a : Act} {w : World} {K : Act → World → Prop} {Q : Exit → Act → World → Prop} {E : Prop} (hgd : o.guard = none) (d x : Operand) (dT sT : TypeId)
    (ho : o.op = .call { callee := .builtin .copy, args := #[d, x], argTypes := #[dT, sT] }) (elem : TypeId) (hu : P.underlying dT = some (.slice elem)) (s : Nat) (hs : (P.info? elem).map (·.size) = some s)
    (g off dLen dCap sLen sCap : Nat) (t : TypeId) (dp sp : Option Addr) (hd : a.eval d = .slice dp dLen dCap) (hx : a.eval x = .slice sp sLen sCap)
    (cur cs : List Value) (hn : cs.length = Nat.min sLen dLen * s) (hg : w.heap[g]? = some (.cells cur.toArray t (0, 0)))
    (hpos : 0 < cs.length → dp = some ⟨g, off, none⟩ ∧ ∃ ad, sp = some ad ∧ ∀ j v, cs[j]? = some v → w.cell? (ad.add j) = some v)
    (h0 : 0 < s) (hfit : off + cs.length ≤ cur.length) (h1 : ∀ v ∈ cs, v.oneCell' = true)
    (h : ∀ w', Hid (w'.heap[g]? = some (.cells (splice cur off cs).toArray t (0, 0))) → Hid (Turned w w' g) → K (a.put o.dst (goInt (Nat.min sLen dLen))) w') :
    if Region.wanted o (yielded ops a.tmps) = true then Oper.wp P o a w K Q else E := by
  have hw : Region.wanted o (yielded ops a.tmps) = true := by simp [Region.wanted, hgd]
  rw [if_pos hw]
  obtain ⟨w', hr, hg', ht⟩ := run_copy_blk (P := P) w dT sT o.type elem s g off dLen dCap sLen sCap t dp sp cur cs hu hs hn hg hpos h0 hfit h1
  unfold Oper.wp
  simp [execOp, ho, resolve, invoke, builtin, hd, hx, hr, Result.andThen]
  exact h w' hg' ht
theorem wpList_copy_blk {ops : Array Oper} {rest : List Oper} {o : Oper} {a : Act} {w : World} {Q : Exit → Act → World → Prop} (hgd : o.guard = none) (d x : Operand) (dT sT : TypeId)
    (ho : o.op = .call { callee := .builtin .copy, args := #[d, x], argTypes := #[dT, sT] }) (elem : TypeId) (hu : P.underlying dT = some (.slice elem)) (s : Nat) (hs : (P.info? elem).map (·.size) = some s)
    (g off dLen dCap sLen sCap : Nat) (t : TypeId) (dp sp : Option Addr) (hd : a.eval d = .slice dp dLen dCap) (hx : a.eval x = .slice sp sLen sCap)
    (cur cs : List Value) (hn : cs.length = Nat.min sLen dLen * s) (hg : w.heap[g]? = some (.cells cur.toArray t (0, 0)))
    (hpos : 0 < cs.length → dp = some ⟨g, off, none⟩ ∧ ∃ ad, sp = some ad ∧ ∀ j v, cs[j]? = some v → w.cell? (ad.add j) = some v)
    (h0 : 0 < s) (hfit : off + cs.length ≤ cur.length) (h1 : ∀ v ∈ cs, v.oneCell' = true)
    (h : ∀ w', Hid (w'.heap[g]? = some (.cells (splice cur off cs).toArray t (0, 0))) → Hid (Turned w w' g) → wpList P ops Q rest (a.put o.dst (goInt (Nat.min sLen dLen))) w') :
    wpList P ops Q (o :: rest) a w := by
  refine wpList_plain hgd fun K hK => ?_
  obtain ⟨w', hr, hg', ht⟩ := run_copy_blk (P := P) w dT sT o.type elem s g off dLen dCap sLen sCap t dp sp cur cs hu hs hn hg hpos h0 hfit h1
  unfold Oper.wp
  simp [execOp, ho, resolve, invoke, builtin, hd, hx, hr, Result.andThen]
  exact hK _ _ (h w' hg' ht)
theorem wpList_clear_blk {ops : Array Oper} {rest : List Oper} {o : Oper} {a : Act} {w : World} {Q : Exit → Act → World → Prop} (hgd : o.guard = none) (x : Operand) (T : TypeId)
    (ho : o.op = .call { callee := .builtin .clear, args := #[x], argTypes := #[T] }) (elem : TypeId) (hu : P.underlying T = some (.slice elem)) (s : Nat)
    (g off n c : Nat) (t : TypeId) (z : Value) (hz : (zeroValue elem).run P w = .ok z w) (hzs : z.cells.size = s) (hx : a.eval x = .slice (some ⟨g, off, none⟩) n c)
    (cur : List Value) (hg : w.heap[g]? = some (.cells cur.toArray t (0, 0))) (hn : 0 < n) (hfit : off + n * s ≤ cur.length) (h1 : ∀ v ∈ (Builtin.zeroCells z.cells n).toList, v.oneCell' = true)
    (h : ∀ w', Hid (w'.heap[g]? = some (.cells (splice cur off (Builtin.zeroCells z.cells n).toList).toArray t (0, 0))) → Hid (Turned w w' g) → wpList P ops Q rest (a.put o.dst (.tuple #[])) w') :
    wpList P ops Q (o :: rest) a w := by
  refine wpList_plain hgd fun K hK => ?_
  obtain ⟨w', hr, hg', ht⟩ := run_clear_blk (P := P) w T o.type elem s g off n c t z cur hu hz hzs hg hn hfit h1
  unfold Oper.wp
  simp [execOp, ho, resolve, invoke, builtin, hx, hr, Result.andThen]
  exact hK _ _ (h w' hg' ht)
/-- append(s, make([]T, m)...) past the room: a new row, the old cells ahead. -/
theorem run_append_zeros_grow (w : World) (t ti ty e : TypeId) (i : TypeInfo) (z : Value) (s bytes : Nat) (ht : P.underlying t = some (.slice e)) (k : IntKind) (hti : P.underlying ti = some (.int k)) (hi : P.info? e = some i) (hz : i.zero = some z)
    (hsize : i.size = s) (hby : i.bytes = bytes) (hzs : z.cells.size = s) (hsz : 0 < s) (hb0 : 0 < bytes) (g n cap m : Nat) (kx : IntKind) (xs : List Value) (hx : xs.length = n * s)
    (hc : ∀ j u, xs[j]? = some u → w.cell? ⟨g, j, none⟩ = some u) (hgrow : cap < n + m) (hm : 0 < m) (hbytes : (n + m) * bytes ≤ 140737488355328) :
    ∃ (C : Nat) (R : List Value) (w' : World), (Builtin.append_ #[t, ti] ty #[.slice (some ⟨g, 0, none⟩) n cap, .int kx m]).run P w = .ok (.slice (some ⟨w.heap.size, 0, none⟩) (n + m) C) w' ∧ n + m ≤ C ∧ C ≤ maxLen ∧ R.length = C * s ∧
      w'.heap[w.heap.size]? = some (.cells R.toArray e (0, 0)) ∧ R.take (n * s) = xs ∧ Below w.heap.size w w' ∧ w'.heap.size = w.heap.size + 1 := by
  subst hsize
  subst hby
  have hle : n + m ≤ 140737488355328 := Nat.le_trans (Nat.le_mul_of_pos_right _ hb0) hbytes
  have h63 : n + m ≤ maxLen := by simp only [maxLen]; omega
  have hw : IntKind.i64.wrap (m : Int) = m := by rw [IntKind.wrap_i64]; omega
  have hneg : ¬ ((m : Int) < 0) := by omega
  have hmb : m * i.bytes ≤ 140737488355328 := Nat.le_trans (Nat.mul_le_mul_right _ (Nat.le_add_left m n)) hbytes
  have hbig : ¬ (281474976710656 < (m : Int) * (i.bytes : Int)) := by
    rw [← Int.natCast_mul]
    omega
  have hge := grownCap_ge w (n + m) cap e
  have hcm : grownCap w (n + m) cap e ≤ maxLen := grownCap_le_maxLen w (n + m) cap e h63
  obtain ⟨news, hnews⟩ : ∃ news, news = (Builtin.zeroCells z.cells m).toList := ⟨_, rfl⟩
  have hl : news.length = m * i.size := by rw [hnews, Array.length_toList, size_zeroCells, hzs]
  have hna : Builtin.zeroCells z.cells m = news.toArray := by rw [hnews]
  have hfo : (Builtin.firstCells i.size n (.slice (some ⟨g, 0, none⟩) n cap)).run P w.drew = .ok xs.toArray w.drew :=
    run_firstCells_some (P := P) w.drew i.size n ⟨g, 0, none⟩ n cap xs hx (fun j u hj => by rw [add_none, Nat.zero_add]; exact hc j u hj)
  have hn : ¬ (n + m ≤ cap) := by omega
  have h63' : ¬ (9223372036854775807 < ((n : Int) + (m : Int))) := by omega
  have hfit := growslice_fits hgrow hbytes
  have h48' : ¬ (281474976710656 < Builtin.nextslicecap (n + m) cap * i.bytes) := by omega
  have hmz : ¬ (m * i.size = 0) := Nat.mul_ne_zero (by omega) (by omega)
  have hrun : (Builtin.append_ #[t, ti] ty #[.slice (some ⟨g, 0, none⟩) n cap, .int kx m]).run P w =
      .ok (.slice (some ⟨w.heap.size, 0, none⟩) (n + m) (grownCap w (n + m) cap e)) (w.drew.alloc (.cells (xs.toArray ++ news.toArray ++ Builtin.zeroCells z.cells (grownCap w (n + m) cap e - (n + m))) e)) := by
    simp [Builtin.append_, run_underlying ht, run_underlying hti, sizeOf, typeInfo, zeroValue, hi, hz, asInt, asIntOf, hw, hneg, hbig, hn, h63', h48', Question.forced, hfo, newRow, grownCap, hmz, hna]
    congr 2
    apply Array.ext'
    simp [List.append_assoc]
  refine ⟨grownCap w (n + m) cap e, (xs.toArray ++ news.toArray ++ Builtin.zeroCells z.cells (grownCap w (n + m) cap e - (n + m))).toList, _, hrun, hge, hcm, ?_, ?_, ?_, ?_, ?_⟩
  · rw [Array.length_toList]
    simp only [Array.size_append, List.size_toArray, size_zeroCells, hzs, hx, hl, ← Nat.add_mul]
    congr 1
    omega
  · rw [Array.toArray_toList]; exact heap_alloc_new w.drew _
  · simp only [Array.toList_append, List.append_assoc]
    rw [← hx]
    exact List.take_left
  · exact (Below.refl _ w).drew.alloc (Nat.le_refl _) _
  · show (w.heap.push _).size = _; simp
theorem wpList_append_zeros_grow {ops : Array Oper} {rest : List Oper} {o : Oper} {a : Act} {w : World} {Q : Exit → Act → World → Prop} (hgd : o.guard = none) (d x : Operand) (t ti : TypeId)
    (ho : o.op = .call { callee := .builtin .append, args := #[d, x], argTypes := #[t, ti] }) (e : TypeId) (i : TypeInfo) (z : Value) (s bytes : Nat) (ht : P.underlying t = some (.slice e)) (k : IntKind) (hti : P.underlying ti = some (.int k)) (hi : P.info? e = some i) (hz : i.zero = some z)
    (hsize : i.size = s) (hby : i.bytes = bytes) (hzs : z.cells.size = s) (hsz : 0 < s) (hb0 : 0 < bytes) (g n cap m : Nat) (kx : IntKind) (hd : a.eval d = .slice (some ⟨g, 0, none⟩) n cap) (hx' : a.eval x = .int kx m) (xs : List Value) (hx : xs.length = n * s)
    (hc : ∀ j u, xs[j]? = some u → w.cell? ⟨g, j, none⟩ = some u) (hgrow : cap < n + m) (hm : 0 < m) (hbytes : (n + m) * bytes ≤ 140737488355328)
    (h : ∀ (C : Nat) (R : List Value) (w' : World), n + m ≤ C → Hid (C ≤ maxLen) → Hid (R.length = C * s) → Hid (w'.heap[w.heap.size]? = some (.cells R.toArray e (0, 0))) → Hid (R.take (n * s) = xs) → Hid (Below w.heap.size w w') → Hid (w'.heap.size = w.heap.size + 1) →
      wpList P ops Q rest (a.put o.dst (.slice (some ⟨w.heap.size, 0, none⟩) (n + m) C)) w') :
    wpList P ops Q (o :: rest) a w := by
  refine wpList_plain hgd fun K hK => ?_
  obtain ⟨C, R, w', hr, h1, h2, h3, h4, h5, h6, h7⟩ := run_append_zeros_grow (P := P) w t ti o.type e i z s bytes ht k hti hi hz hsize hby hzs hsz hb0 g n cap m kx xs hx hc hgrow hm hbytes
  unfold Oper.wp
  simp [execOp, ho, resolve, invoke, builtin, hd, hx', hr, Result.andThen]
  exact hK _ _ (h C R w' h1 h2 h3 h4 h5 h6 h7)
end
end Go.Proofs.YtpccgdlgfblaeaaDoor
