/- name.CheckKey, walked. -/
import Derived.Test.YtpccgdlgfblaeaaDoorSeq
import Derived.Test.YtpccgdlgfblaeaaDoorRange
namespace Go.Proofs.YtpccgdlgfblaeaaDoor
open Go.RowKit Go.Proofs Go.Shelf
attribute [local go_sem] Oper.semAt_some
def okPart (p : ByteArray) : Bool := decide (p.size ≤ 63) && isName p
def okLast (p : ByteArray) : Bool := decide (p.size ≤ 63) && isWord p
/-- 'CheckKey': OK 0, ErrLarge 2, ErrName 6. -/
def checkKey (s : ByteArray) : Int :=
  judge s 64 (if (cutB 47 s).2.2 then (pieces 46 (cutB 47 s).1).all okPart && okLast (cutB 47 s).2.1 else okLast (cutB 47 s).1)
theorem heap_alloc_if (W : World) (o : Obj) (k : Nat) : (W.alloc o).heap[k]? = if k = W.heap.size then some o else W.heap[k]? := by
  show (W.heap.push o)[k]? = _
  rw [Array.getElem?_push]
theorem heap_drewN (W : World) (n : Nat) : (W.drewN n).heap = W.heap := rfl
/-- A block of one cell, as a cell. -/
theorem cell_of_block {W : World} {b : Nat} {v : Value} {t : TypeId} (h : W.heap[b]? = some (.cells #[v] t)) : W.cell? ⟨b, 0, none⟩ = some v ∧ W.frozen? ⟨b, 0, none⟩ = false := by
  constructor
  · unfold World.cell?; simp [h]
  · unfold World.frozen?; simp [h]
theorem setCell_block {W : World} {b : Nat} {v u : Value} {t : TypeId} (h : W.heap[b]? = some (.cells #[v] t)) : (W.setCell ⟨b, 0, none⟩ u).heap[b]? = some (.cells #[u] t) := by
  simp only [World.setCell, Array.getElem?_modify, if_true, h, Option.map_some]
  rfl
/-- What lies in memory between two rounds of the range over a key's parts. -/
structure KeyJ (w : World) (L : LoopState → Option Code → Loop) (st : LoopState) (rest : ByteArray) (b : Bool) (W : World) : Prop where
  is : W.heap[w.heap.size]? = some (.cells #[.bool b] 4)
  s : W.heap[w.heap.size + 1]? = some (.cells #[.string rest] 9)
  sep : W.heap[w.heap.size + 2]? = some (.cells #[.string ⟨#[46]⟩] 9)
  sv : W.heap[w.heap.size + 3]? = some (.cells #[.int .i64 0] 3)
  dfr : W.heap[w.heap.size + 4]? = some (.deferred (some []))
  lp : W.heap[w.heap.size + 5]? = some (.loop (L st none))
  bel : Below w.heap.size w W
theorem KeyJ.cells {w : World} {L : LoopState → Option Code → Loop} {st : LoopState} {rest : ByteArray} {b : Bool} {W : World} (h : KeyJ w L st rest b W) :
    W.cell? ⟨w.heap.size + 1, 0, none⟩ = some (.string rest) ∧ W.frozen? ⟨w.heap.size + 1, 0, none⟩ = false ∧ W.cell? ⟨w.heap.size + 2, 0, none⟩ = some (.string ⟨#[46]⟩) ∧ W.cell? ⟨w.heap.size + 3, 0, none⟩ = some (.int .i64 0) :=
  ⟨(cell_of_block h.s).1, (cell_of_block h.s).2, (cell_of_block h.sep).1, (cell_of_block h.sv).1⟩
theorem KeyJ.put {w : World} {L : LoopState → Option Code → Loop} {st : LoopState} {rest : ByteArray} {b : Bool} {W : World} (h : KeyJ w L st rest b W) (r : ByteArray) : KeyJ w L st r b (W.setCell ⟨w.heap.size + 1, 0, none⟩ (.string r)) where
  is := (Below.heap_setCell _ _ _ _ (by simp)).trans h.is
  s := setCell_block h.s
  sep := (Below.heap_setCell _ _ _ _ (by simp)).trans h.sep
  sv := (Below.heap_setCell _ _ _ _ (by simp)).trans h.sv
  dfr := (Below.heap_setCell _ _ _ _ (by simp)).trans h.dfr
  lp := (Below.heap_setCell _ _ _ _ (by simp)).trans h.lp
  bel := h.bel.setCell (p := ⟨w.heap.size + 1, 0, none⟩) (by simp) _
theorem KeyJ.say {w : World} {L : LoopState → Option Code → Loop} {st : LoopState} {rest : ByteArray} {b : Bool} {W : World} (h : KeyJ w L st rest b W) (c : Bool) : KeyJ w L st rest c (W.setCell ⟨w.heap.size, 0, none⟩ (.bool c)) where
  is := setCell_block h.is
  s := (Below.heap_setCell _ _ _ _ (by simp)).trans h.s
  sep := (Below.heap_setCell _ _ _ _ (by simp)).trans h.sep
  sv := (Below.heap_setCell _ _ _ _ (by simp)).trans h.sv
  dfr := (Below.heap_setCell _ _ _ _ (by simp)).trans h.dfr
  lp := (Below.heap_setCell _ _ _ _ (by simp)).trans h.lp
  bel := h.bel.setCell (p := ⟨w.heap.size, 0, none⟩) (by simp) _
theorem below_putObj {B : Nat} {w W : World} (h : Below B w W) {r : Nat} (hr : B ≤ r) (o : Obj) : Below B w (W.putObj r o) :=
  h.trans ⟨rfl, rfl, rfl, by simp, fun k hk => World.putObj_heap_other (by omega)⟩
theorem KeyJ.turn {w : World} {L : LoopState → Option Code → Loop} {st : LoopState} {rest : ByteArray} {b : Bool} {W : World} (h : KeyJ w L st rest b W) (st' : LoopState) : KeyJ w L st' rest b (W.putObj (w.heap.size + 4 + 1) (.loop (L st' none))) where
  is := (World.putObj_heap_other (by omega)).trans h.is
  s := (World.putObj_heap_other (by omega)).trans h.s
  sep := (World.putObj_heap_other (by omega)).trans h.sep
  sv := (World.putObj_heap_other (by omega)).trans h.sv
  dfr := (World.putObj_heap_other (by omega)).trans h.dfr
  lp := World.putObj_heap_same (Array.getElem?_eq_some_iff.1 h.lp).1
  bel := below_putObj h.bel (by omega) _
theorem keyJ_start (w : World) (nd : Nat) (L : LoopState → Option Code → Loop) (a : ByteArray) : KeyJ w L .ready a true
    (((((((w.alloc (Obj.cells #[.bool true] 4)).drewN nd).alloc (.cells #[.string a] 9)).alloc (.cells #[.string ⟨#[46]⟩] 9)).alloc (.cells #[.int .i64 0] 3)).alloc (.deferred (some []))).alloc (.loop (L .ready none))) := by
  have hd : ∀ W : World, (W.drewN nd).heap.size = W.heap.size := fun W => rfl
  refine ⟨?_, ?_, ?_, ?_, ?_, ?_, ?_⟩
  all_goals try (simp only [heap_alloc_if, heap_drewN, World.size_alloc]; (repeat (first | rw [if_neg (by omega)] | rw [if_pos (by omega)] | rw [if_pos trivial])); done)
  refine Below.alloc (Below.alloc (Below.alloc (Below.alloc (Below.alloc ?_ ?_ _) ?_ _) ?_ _) ?_ _) ?_ _
  · exact Below.trans ((Below.refl _ w).alloc (Nat.le_refl _) _) ⟨rfl, rfl, rfl, Nat.le_refl _, fun _ _ => rfl⟩
  all_goals (simp only [World.size_alloc, hd]; omega)
set_option maxHeartbeats 2000000 in
theorem checkKey_calls (s : ByteArray) (w : World) (hs : s.size ≤ 9223372036854775807) : Calls Tryd.prog 25 #[.string s] w fun e w' => e = .returned (.int .i64 (checkKey s)) ∧ Below w.heap.size w w' := by
  have C := Lib.hid (fun w => cut_calls 47 s w hs)
  have M : Hid (checkKey s = judge s 64 (if (cutB 47 s).2.2 then (pieces 46 (cutB 47 s).1).all okPart && okLast (cutB 47 s).2.1 else okLast (cutB 47 s).1)) := rfl
  have hz : (cutB 47 s).1.size ≤ s.size ∧ (cutB 47 s).2.1.size ≤ s.size := by
    unfold cutB; split
    · exact ⟨Nat.le_refl _, Nat.zero_le _⟩
    · simp only [ByteArray.size_extract]; omega
  generalize cutB 47 s = r at C M hz
  obtain ⟨a, b, two⟩ := r
  dsimp only at M hz
  unfold Tup3 at C
  obtain ⟨hz1, hz2⟩ := hz
  have J := Lib.hid (fun is w => judge_calls s 64 is w)
  refine (callsIn_wide (n := 5)).1 ?_
  refine callsIn_of_wp_marks Tryd.func25 rfl trivial ?_ rfl
  simp only [Tryd.ntmps25, List.size_toArray, List.length_cons, List.length_nil, Nat.reduceAdd, Nat.reduceSub, Array.replicate_succ, Array.replicate_zero, List.push_toArray, List.append_toArray, List.nil_append, List.cons_append]
  gi_wp2_with fail
  refine ⟨trivial, ?_⟩
  refine (callsIn_wide.2 (C.out _)).mono ?_
  rintro e w1 ⟨rfl, ⟨nd, rfl⟩⟩
  cases two with
  | false =>
    have M2 : Hid (checkKey s = judge s 64 (okLast a)) := M.out
    clear M C
    have W := Lib.hid (fun w => isWord_calls a w (by omega))
    by_cases hl : (a.size : Int) ≤ 63
    · have M3 : Hid (checkKey s = judge s 64 (isWord a)) := by have := M2.out; rw [this, Hid]; unfold okLast; rw [decide_eq_true (by omega)]; simp
      clear M2
      gi_wp2_with fail
      refine ⟨trivial, ?_⟩
      refine (callsIn_wide.2 (W.out _)).mono ?_
      rintro e w1 ⟨rfl, rfl⟩
      gi_wp2_with fail
      refine ⟨trivial, ?_⟩
      refine (callsIn_wide.2 (J.out _ _)).mono ?_
      rintro e w1 ⟨rfl, rfl⟩
      gi_wp2_with fail
      exact ⟨_, results_tmp rfl _ _ _, by rw [M3.out]; rfl, Below.trans ((Below.refl _ w).alloc (Nat.le_refl _) _) ⟨rfl, rfl, rfl, Nat.le_refl _, fun _ _ => rfl⟩⟩
    · have M3 : Hid (checkKey s = judge s 64 false) := by have := M2.out; rw [this, Hid]; unfold okLast; rw [decide_eq_false (by omega)]; simp
      clear M2
      gi_wp2_with fail
      refine ⟨trivial, ?_⟩
      gi_wp2_with fail
      refine ⟨trivial, ?_⟩
      refine (callsIn_wide.2 (J.out _ _)).mono ?_
      rintro e w1 ⟨rfl, rfl⟩
      gi_wp2_with fail
      exact ⟨_, results_tmp rfl _ _ _, by rw [M3.out]; rfl, Below.trans ((Below.refl _ w).alloc (Nat.le_refl _) _) ⟨rfl, rfl, rfl, Nat.le_refl _, fun _ _ => rfl⟩⟩
  | true =>
    gi_wp2_with fail
    refine ⟨trivial, ?_⟩
    refine (callsIn_wide.2 (splitSeq_calls a ⟨#[46]⟩ _)).mono ?_
    rintro e w1 ⟨rfl, rfl⟩
    gi_wp2_with fail
    have M2 : Hid (checkKey s = judge s 64 ((pieces 46 a).all okPart && okLast b)) := M.out
    clear M C
    refine wide_rangeFunc (w.heap.size + 4) (by simp) (gf := 47) (lb := #[.pointer (some ⟨w.heap.size + 1 + 1, 0, none⟩), .pointer (some ⟨w.heap.size + 1, 0, none⟩), .pointer (some ⟨w.heap.size + 1 + 2, 0, none⟩)]) rfl (enters_of Tryd.func47 (by kernel_rfl) rfl) ?_
    intro fn L hL
    have HL := Lib.hid hL
    clear hL
    refine (splitIter_in (5 - 1) (by omega) _ (w.heap.size + 1 + 1) (w.heap.size + 1) (w.heap.size + 1 + 2) 46 okPart
      (KeyJ w L .ready) ?hJ ?hst ?hY a true _ (by omega) ?h0).mono ?_
    case h0 => exact keyJ_start w nd L a
    case hJ => exact fun r b W h => h.cells
    case hst => exact fun r r' b W h => h.put r'
    case hY =>
      intro r bb x W hj
      refine yieldAt_of_body (a₁ := ?a1) (L := L) HL.out hj.lp rfl ?ha ?hb
      case ha => intro K hK; gi_wp2; exact hK
      case hb =>
        clear HL
        have hj0 := hj.turn .busy
        obtain ⟨W0, hW0⟩ : ∃ W0, W.putObj (w.heap.size + 4 + 1) (.loop (L .busy none)) = W0 := ⟨_, rfl⟩
        rw [hW0] at hj0 ⊢
        clear hW0 hj
        obtain ⟨hc, hf⟩ := cell_of_block hj0.is
        have N := Lib.hid (fun hx w => isName_calls x w hx)
        cases bb with
        | false =>
          have R := Lib.hid (hj0.say (false && okPart x))
          clear hj0
          gi_wp2_with (refine ⟨trivial, ?_⟩)
          exact ⟨R.out.lp, by simpa using R.out.turn .ready⟩
        | true =>
          by_cases hx : (x.size : Int) ≤ 63
          · have R : Hid (KeyJ w L .busy r (true && okPart x) (W0.setCell ⟨w.heap.size, 0, none⟩ (.bool (isName x)))) := by
              have := hj0.say (true && okPart x)
              have e : (true && okPart x) = isName x := by unfold okPart; rw [decide_eq_true (by omega)]; simp
              rw [e] at this ⊢; exact this
            clear hj0
            gi_wp2_with fail
            refine ⟨trivial, ?_⟩
            refine (CallsIn.inRound _ (callsIn_wide.2 (N.out (by omega) _))).mono ?_
            rintro e w1 ⟨rfl, rfl⟩
            gi_wp2_with fail
            exact ⟨R.out.lp, by simpa using R.out.turn .ready⟩
          · have R : Hid (KeyJ w L .busy r (true && okPart x) (W0.setCell ⟨w.heap.size, 0, none⟩ (.bool false))) := by
              have := hj0.say (true && okPart x)
              have e : (true && okPart x) = false := by unfold okPart; rw [decide_eq_false (by omega)]; simp
              rw [e] at this ⊢; exact this
            clear hj0
            gi_wp2_with (refine ⟨trivial, ?_⟩)
            exact ⟨R.out.lp, by simpa using R.out.turn .ready⟩
    rintro e W2 ⟨⟨v, rfl⟩, r, hj⟩
    clear HL
    refine ⟨⟨_, rfl⟩, hj.lp, ?_⟩
    have hj2 := hj.turn .exhausted
    obtain ⟨W3, hW3⟩ : ∃ W3, W2.putObj (w.heap.size + 4 + 1) (.loop (L .exhausted none)) = W3 := ⟨_, rfl⟩
    rw [hW3] at hj2 ⊢
    clear hW3 hj
    rw [Bool.true_and] at hj2
    generalize (pieces 46 a).all okPart = q at hj2 M2
    obtain ⟨hc, hf⟩ := cell_of_block hj2.is
    have HJ := Lib.hid hj2
    clear hj2
    have W := Lib.hid (fun hx w => isWord_calls b w hx)
    cases q with
    | false =>
      have M3 : Hid (checkKey s = judge s 64 false) := by have := M2.out; rw [this, Hid]; simp
      clear M2
      gi_wp2_with fail
      refine ⟨trivial, ?_⟩
      gi_wp2_with fail
      refine ⟨trivial, ?_⟩
      refine (callsIn_wide.2 (J.out _ _)).mono ?_
      rintro e w1 ⟨rfl, rfl⟩
      gi_wp2_with fail
      refine ⟨by simp, .inl ⟨_, _, rfl, run_takeDeferred HJ.out.dfr, ?_⟩⟩
      exact ⟨_, results_tmp rfl _ _ _, by rw [M3.out]; rfl, below_putObj HJ.out.bel (by omega) _⟩
    | true =>
      by_cases hl : (b.size : Int) ≤ 63
      · have M3 : Hid (checkKey s = judge s 64 (isWord b)) := by have := M2.out; rw [this, Hid]; unfold okLast; rw [decide_eq_true (by omega)]; simp
        clear M2
        gi_wp2_with fail
        refine ⟨trivial, ?_⟩
        refine (callsIn_wide.2 (W.out (by omega) _)).mono ?_
        rintro e w1 ⟨rfl, rfl⟩
        gi_wp2_with fail
        refine ⟨trivial, ?_⟩
        refine (callsIn_wide.2 (J.out _ _)).mono ?_
        rintro e w1 ⟨rfl, rfl⟩
        gi_wp2_with fail
        refine ⟨by simp, .inl ⟨_, _, rfl, run_takeDeferred HJ.out.dfr, ?_⟩⟩
        exact ⟨_, results_tmp rfl _ _ _, by rw [M3.out]; rfl, below_putObj HJ.out.bel (by omega) _⟩
      · have M3 : Hid (checkKey s = judge s 64 false) := by have := M2.out; rw [this, Hid]; unfold okLast; rw [decide_eq_false (by omega)]; simp
        clear M2
        gi_wp2_with fail
        refine ⟨trivial, ?_⟩
        gi_wp2_with fail
        refine ⟨trivial, ?_⟩
        refine (callsIn_wide.2 (J.out _ _)).mono ?_
        rintro e w1 ⟨rfl, rfl⟩
        gi_wp2_with fail
        refine ⟨by simp, .inl ⟨_, _, rfl, run_takeDeferred HJ.out.dfr, ?_⟩⟩
        exact ⟨_, results_tmp rfl _ _ _, by rw [M3.out]; rfl, below_putObj HJ.out.bel (by omega) _⟩
end Go.Proofs.YtpccgdlgfblaeaaDoor
