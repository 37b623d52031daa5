/- Names in order; labels in order: plain. -/
import Derived.Test.YtpccgdlgfblaeaaDoorMatch
import Derived.KernelRfl
namespace Go.Proofs.YtpccgdlgfblaeaaDoor
open Go.RowKit Go.Proofs
theorem cmpB_neg (a b : List UInt8) : Lib.compareBytes b a = - Lib.compareBytes a b := by
  induction a generalizing b with
  | nil => cases b <;> simp [Lib.compareBytes]
  | cons x a ih =>
    cases b with
    | nil => simp [Lib.compareBytes]
    | cons y b =>
      simp only [Lib.compareBytes]
      by_cases h1 : x < y
      · have h2 : ¬ y < x := fun h => absurd (UInt8.lt_trans h1 h) (by simp)
        simp [h1, h2]
      · by_cases h2 : y < x
        · simp [h1, h2]
        · simp [h1, h2, ih b]
theorem cmpB_trans (a b c : List UInt8) (h1 : Lib.compareBytes a b < 0) (h2 : Lib.compareBytes b c < 0) : Lib.compareBytes a c < 0 := by
  induction a generalizing b c with
  | nil =>
    cases b with
    | nil => simp [Lib.compareBytes] at h1
    | cons y b =>
      cases c with
      | nil => simp [Lib.compareBytes] at h2
      | cons z c => simp [Lib.compareBytes]
  | cons x a ih =>
    cases b with
    | nil => simp [Lib.compareBytes] at h1
    | cons y b =>
      cases c with
      | nil => simp [Lib.compareBytes] at h2
      | cons z c =>
        simp only [Lib.compareBytes] at *
        simp only [UInt8.lt_iff_toNat_lt] at *
        by_cases e : x.toNat = y.toNat
        · by_cases e' : y.toNat = z.toNat
          · simp [e, e'] at *
            exact ih b c h1 h2
          · by_cases h : y.toNat < z.toNat
            · have : x.toNat < z.toNat := by omega
              simp [this]
            · simp [h, show z.toNat < y.toNat from by omega] at h2
        · by_cases h : x.toNat < y.toNat
          · by_cases h' : z.toNat < y.toNat
            · simp [h', show ¬ y.toNat < z.toNat from by omega] at h2
            · have : x.toNat < z.toNat := by omega
              simp [this]
          · simp [h, show y.toNat < x.toNat from by omega] at h1
theorem less_cmp (a b : List UInt8) : Op.bytesLess a b = decide (Lib.compareBytes a b < 0) := by
  induction a generalizing b with
  | nil => cases b <;> simp [Lib.compareBytes, Op.bytesLess]
  | cons x a ih =>
    cases b with
    | nil => simp [Lib.compareBytes, Op.bytesLess]
    | cons y b =>
      simp only [Lib.compareBytes, Op.bytesLess, ih b]
      by_cases h1 : x < y
      · simp [h1]
      · by_cases h2 : y < x
        · have : x ≠ y := fun e => by subst e; exact h1 h2
          simp [h1, h2, this]
        · have : x = y := by
            apply UInt8.toNat_inj.1
            simp only [UInt8.lt_iff_toNat_lt] at *
            omega
          simp [this]
theorem less_eq (a b : ByteArray) : less a b = decide (Lib.compareBytes a.data.toList b.data.toList < 0) := by
  unfold less; rw [less_cmp, Lib.toList_data, Lib.toList_data]
theorem less_trans {a b c : ByteArray} (h1 : less a b = true) (h2 : less b c = true) : less a c = true := by
  rw [less_eq, decide_eq_true_iff] at *
  exact cmpB_trans _ _ _ h1 h2
/-- Row by row, each with the key before it. -/
def goodLabs : Option ByteArray → List Lab → Prop
  | _, [] => True
  | p, x :: l => badLab p x = 0 ∧ goodLabs (some x.key) l
theorem firstBad_good (l : List Lab) (p : Option ByteArray) : firstBad (List.zipWith badLab (p :: l.map fun x => some x.key) l) = 0 ↔ goodLabs p l := by
  induction l generalizing p with
  | nil => simp [firstBad, goodLabs]
  | cons x l ih =>
    simp only [List.map_cons, List.zipWith_cons_cons, firstBad, goodLabs]
    by_cases h : badLab p x = 0
    · simp only [h, if_true, true_and]; exact ih _
    · simp [h]
theorem badLab_zero (p : Option ByteArray) (x : Lab) : badLab p x = 0 ↔ checkKey x.key = 0 ∧ checkVal x.val = 0 ∧ ∀ q, p = some q → less q x.key = true := by
  unfold badLab
  by_cases h1 : checkKey x.key = 0
  · by_cases h2 : checkVal x.val = 0
    · cases p with
      | none => simp [h1, h2]
      | some q => cases h : less q x.key <;> simp [h1, h2, h]
    · simp [h1, h2]
  · simp [h1]
theorem goodLabs_iff (l : List Lab) (p : Option ByteArray) : goodLabs p l ↔ (∀ x ∈ l, checkKey x.key = 0 ∧ checkVal x.val = 0) ∧ (∀ q, p = some q → ∀ x ∈ l, less q x.key = true) ∧ l.Pairwise (fun a b => less a.key b.key = true) := by
  induction l generalizing p with
  | nil => simp [goodLabs]
  | cons x l ih =>
    simp only [goodLabs, ih, badLab_zero, List.pairwise_cons, List.mem_cons, forall_eq_or_imp]
    constructor
    · rintro ⟨⟨h1, h2, h3⟩, h4, h5, h6⟩
      exact ⟨⟨⟨h1, h2⟩, h4⟩, fun q hq => ⟨h3 q hq, fun y hy => less_trans (h3 q hq) (h5 _ rfl y hy)⟩, h5 _ rfl, h6⟩
    · rintro ⟨⟨⟨h1, h2⟩, h4⟩, h3, h5, h6⟩
      exact ⟨⟨h1, h2, fun q hq => (h3 q hq).1⟩, h4, fun q hq => by cases hq; exact h5, h6⟩
/-- 'CheckLabels' says OK just where: few; each a label; the keys rise. -/
theorem checkLabs_zero (l : List Lab) : checkLabs l = 0 ↔ l.length ≤ 10 ∧ (∀ x ∈ l, checkKey x.key = 0 ∧ checkVal x.val = 0) ∧ l.Pairwise (fun a b => less a.key b.key = true) := by
  unfold checkLabs labErrs
  by_cases h : 10 < l.length
  · simp [h]; omega
  · simp only [h, if_false, firstBad_good, goodLabs_iff]
    constructor
    · rintro ⟨h1, -, h2⟩; exact ⟨by omega, h1, h2⟩
    · rintro ⟨-, h1, h2⟩; exact ⟨h1, fun q hq => by (cases hq), h2⟩
theorem lookup_without (A B : List Lab) (x : Lab) (key : ByteArray) (h : same x.key key = false) : lookup (A ++ x :: B) key = lookup (A ++ B) key := by
  unfold lookup
  rw [List.find?_append, List.find?_append, List.find?_cons_of_neg (by simp [h])]
theorem allB_without (l : List Req) (A B : List Lab) (x : Lab) (h : ∀ r ∈ l, same r.key x.key = false) : allB l (A ++ x :: B) = allB l (A ++ B) := by
  unfold allB
  rw [Bool.eq_iff_iff, List.all_eq_true, List.all_eq_true]
  have e : ∀ r ∈ l, holdsB r (A ++ x :: B) = holdsB r (A ++ B) := fun r hr => by
    unfold holdsB
    rw [lookup_without A B x r.key]
    have := h r hr
    cases h' : same x.key r.key
    · rfl
    · rw [same_iff] at h'; rw [h'] at this; rw [← this]; exact ((same_iff _ _).2 rfl).symm
  exact ⟨fun H r hr => (e r hr) ▸ H r hr, fun H r hr => (e r hr).symm ▸ H r hr⟩
end Go.Proofs.YtpccgdlgfblaeaaDoor
