/- A range over a function whose body always goes on, in the wide fence: two laws. -/
import Derived.RangeFuncNested
import Derived.RangeFuncBound
import Derived.RangeFuncCalls
import Derived.RangeFuncLeaves
import Derived.Shelf.Abstract
import Derived.Shelf.RegionOpen
import Derived.WalkKit
import Derived.OwnWalkIn
import Derived.TacticsInMore
import Derived.LoopNIn
import Derived.LoopIn
namespace Go.Proofs.YtpccgdlgfblaeaaDoor
open Go.RowKit Go.Proofs Go.Shelf
/-- The loop's record. -/
def loopRec (fn : FuncId) (tmps : Array Value) (ps : Array Tmp) (assign body : Code) (D : Nat) (st : LoopState) (pe : Option Code) : Loop :=
  { state := st, pending := pe, fn, tmps, params := ps, assign, body, defers := D }
theorem wide_rangeFunc {n : Nat} {P : Program} {g : Operand} {ps : Array Tmp} {assign body : Code} {Q : Exit → Act → World → Prop} {a : Act} {w : World} {gf : Nat} {lb : Array Value} (D : Nat) (hD : w.heap.size = D)
    (hg : a.eval g = .func (.func gf) #[] lb) (eg : ∀ args w, (callFunc gf args).run P w = .ok (.enter gf args) w)
    (h : ∀ (fn : FuncId) (L : LoopState → Option Code → Loop), L = loopRec fn a.tmps ps assign body D → CallsIn Fence.wide (n - 1) P gf (#[.func (.yield (D + 1)) #[] #[]] ++ lb)
      ((w.alloc (.deferred (some []))).alloc (.loop (L .ready none)))
      fun e W2 => (∃ v, e = .returned v) ∧ W2.heap[D + 1]? = some (.loop (L .ready none)) ∧
        Q .normal { a with defers := { target := .collected D, args := #[] } :: a.defers } (W2.putObj (D + 1) (.loop (L .exhausted none)))) :
    (Code.rangeFunc g ps assign body).wpIn Fence.wide n P Q a w := by
  subst hD
  refine wpIn_rangeFunc ?_
  intro fn hfn
  obtain ⟨W1, hW1⟩ : ∃ W1, (w.alloc (.deferred (some []))).alloc (.loop (loopRec fn a.tmps ps assign body w.heap.size .ready none)) = W1 := ⟨_, rfl⟩
  have h1 := h fn _ rfl
  rw [hW1] at h1
  refine ⟨w.heap.size + 1, [{ target := .collected w.heap.size, args := #[] }], W1, { target := .fn (.func gf) lb, args := #[.func (.yield (w.heap.size + 1)) #[] #[]] }, W1, gf,
    #[.func (.yield (w.heap.size + 1)) #[] #[]] ++ lb, W1, ?_, ?_, ?_, ?_, ?_, ?_⟩
  · rw [← hW1]; exact run_enterLoop_outer _ _ _ _ _
  · simp only [resolve, hg]
    simp [go_sem]
  · intro f' _; trivial
  · simp [invoke, go_sem, eg]
  · intro h; cases h
  · refine h1.mono ?_
    rintro e W2 ⟨⟨v, rfl⟩, hl, hq⟩
    exact ⟨none, _, run_endLoop (P := P) hl (by simp [loopRec]), hq⟩
theorem yieldAt_of_body {m : Nat} {P : Program} {l : Nat} {W : World} {fn : FuncId} {tmps : Array Value} {ps : Array Tmp} {assign body : Code} {D : Nat} {L : LoopState → Option Code → Loop} {args : Array Value} {R : Ending → World → Prop} (a₁ : Act) (hL : L = loopRec fn tmps ps assign body D)
    (hl : W.heap[l]? = some (.loop (L .ready none))) (hs : args.size = ps.size)
    (ha : ∀ K : Act → World → Prop, K a₁ W → assign.wpIn (Fence.wide.inRound l) m P (Exit.then K (fun _ _ _ => False)) { tmps := (ps.zip args).foldl (fun t (p, v) => t.setIfInBounds p v) tmps, defers := [] } W)
    (hb : body.wpIn (Fence.wide.inRound l) m P (fun e _ W3 => e = .normal ∧ W3.heap[l]? = some (.loop (L .busy none)) ∧
      R (.returned (.bool true)) (W3.putObj l (.loop (L .ready none)))) a₁ (W.putObj l (.loop (L .busy none)))) :
    YieldAt Fence.wide m P l args W R := by
  subst hL
  have hy := run_yield (P := P) (args := args) hl hs
  refine ⟨fn, _, assign, body, hy, roundIn_of_wpIn trivial (ha _ ⟨_, run_beginRound hl rfl, ?_⟩)⟩
  refine wpIn_mono hb ?_
  rintro e a3 W3 ⟨rfl, hl3, hR⟩
  exact ⟨_, _, run_endRound (P := P) none hl3, hR⟩
end Go.Proofs.YtpccgdlgfblaeaaDoor
