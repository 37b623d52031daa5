/- How strings, labels and parts of selectors lie in memory. -/
import Derived.Test.YtpccgdlgfblaeaaDoorName
import Derived.Deep.QuietTactic
import Derived.BigQuiet
namespace Go.Proofs.YtpccgdlgfblaeaaDoor
open Go.RowKit Go.Proofs
structure Req where
  key : ByteArray
  kind : Int
  vals : List ByteArray
structure Lab where
  key : ByteArray
  val : ByteArray
def small (s : ByteArray) : Prop := s.size ≤ 9223372036854775807
def StrsAt (w : World) (a : Option Addr) (l : List ByteArray) : Prop :=
  l.length ≤ 9223372036854775807 ∧ (0 < l.length → ∃ b off, a = some ⟨b, off, none⟩ ∧ ∀ i x, l[i]? = some x → w.cell? ⟨b, off + i, none⟩ = some (.string x) ∧ small x)
def LabsAt (w : World) (a : Option Addr) (l : List Lab) : Prop :=
  l.length ≤ 9223372036854775807 ∧ (0 < l.length → ∃ b off, a = some ⟨b, off, none⟩ ∧ ∀ i x, l[i]? = some x → w.cell? ⟨b, off + i * 2, none⟩ = some (.string x.key) ∧ w.cell? ⟨b, off + i * 2 + 1, none⟩ = some (.string x.val) ∧ small x.key ∧ small x.val)
structure ReqAt (w : World) (b o : Nat) (r : Req) (a : Option Addr) (c : Nat) : Prop where
  key : w.cell? ⟨b, o, none⟩ = some (.string r.key)
  kind : w.cell? ⟨b, o + 1, none⟩ = some (.int .i64 r.kind)
  vals : w.cell? ⟨b, o + 2, none⟩ = some (.slice a r.vals.length c)
  cap : r.vals.length ≤ c
  strs : StrsAt w a r.vals
  small : small r.key
def ReqsAt (w : World) (a : Option Addr) (l : List Req) : Prop :=
  l.length ≤ 9223372036854775807 ∧ (0 < l.length → ∃ b off, a = some ⟨b, off, none⟩ ∧ ∀ i r, l[i]? = some r → ∃ a' c', ReqAt w b (off + i * 3) r a' c')
theorem cell_new (w : World) (cs : Array Value) (t : TypeId) (j : Nat) (v : Value) (h : cs[j]? = some v) : (w.alloc (.cells cs t)).cell? ⟨w.heap.size, j, none⟩ = some v := by
  unfold World.cell?
  rw [show (w.alloc (.cells cs t)).heap[(⟨w.heap.size, j, none⟩ : Addr).block]? = some (.cells cs t) from by show (w.heap.push _)[w.heap.size]? = _; simp]
  simpa using h
theorem frozen_new (w : World) (cs : Array Value) (t : TypeId) (j : Nat) : (w.alloc (.cells cs t)).frozen? ⟨w.heap.size, j, none⟩ = false := by
  unfold World.frozen?
  rw [show (w.alloc (.cells cs t)).heap[(⟨w.heap.size, j, none⟩ : Addr).block]? = some (.cells cs t) from by show (w.heap.push _)[w.heap.size]? = _; simp]
  simp
theorem cell_later {w w' : World} (h : Below w.heap.size w w') {a : Addr} {v : Value} (hc : w.cell? a = some v) : w'.cell? a = some v :=
  (h.cell (World.block_lt_of_cell? w a hc)).trans hc
theorem StrsAt.later {w w' : World} {a : Option Addr} {l : List ByteArray} (h : StrsAt w a l) (hb : Below w.heap.size w w') : StrsAt w' a l :=
  ⟨h.1, fun h0 => by
    obtain ⟨b, off, e, hc⟩ := h.2 h0
    exact ⟨b, off, e, fun i x hi => ⟨cell_later hb (hc i x hi).1, (hc i x hi).2⟩⟩⟩
theorem LabsAt.later {w w' : World} {a : Option Addr} {l : List Lab} (h : LabsAt w a l) (hb : Below w.heap.size w w') : LabsAt w' a l :=
  ⟨h.1, fun h0 => by
    obtain ⟨b, off, e, hc⟩ := h.2 h0
    exact ⟨b, off, e, fun i x hi => ⟨cell_later hb (hc i x hi).1, cell_later hb (hc i x hi).2.1, (hc i x hi).2.2⟩⟩⟩
theorem ReqAt.later {w w' : World} {b o : Nat} {r : Req} {a : Option Addr} {c : Nat} (h : ReqAt w b o r a c) (hb : Below w.heap.size w w') : ReqAt w' b o r a c :=
  ⟨cell_later hb h.key, cell_later hb h.kind, cell_later hb h.vals, h.cap, h.strs.later hb, h.small⟩
theorem ReqsAt.later {w w' : World} {a : Option Addr} {l : List Req} (h : ReqsAt w a l) (hb : Below w.heap.size w w') : ReqsAt w' a l :=
  ⟨h.1, fun h0 => by
    obtain ⟨b, off, e, hc⟩ := h.2 h0
    exact ⟨b, off, e, fun i r hi => by
      obtain ⟨a', c', h'⟩ := hc i r hi
      exact ⟨a', c', h'.later hb⟩⟩⟩
/-- A part as a value. -/
def Req.value (r : Req) (a : Option Addr) (c : Nat) : Value := .agg #[.string r.key, .int .i64 r.kind, .slice a r.vals.length c]
def Lab.value (x : Lab) : Value := .agg #[.string x.key, .string x.val]
theorem below_alloc {B : Nat} {w W : World} (h : Below B w W) (hB : B ≤ W.heap.size) (o : Obj) : Below B w (W.alloc o) := h.alloc hB o
theorem below_then {B : Nat} {w w1 w2 : World} (h : Below B w w1) (hB : B ≤ w1.heap.size) (k : Below w1.heap.size w1 w2) : Below B w w2 := h.trans (k.mono hB)
/-- A world in which all that lay in w lies unturned. -/
structure Later (w : World) where
  world : World
  below : Below w.heap.size w world
instance (w : World) : Nonempty (Later w) := ⟨⟨w, Below.refl _ _⟩⟩
/-- A region that draws its order, whose operations read what lay there and whose callees turn nothing that lay there: the order of the text serves every order. -/
theorem wp_region_later {P : Program} {id : Nat} {Q : Exit → Act → World → Prop} {a : Act} {w : World} {l : List Oper} (hm : P.follows .mixedOrders = true) (hB : Region.lexB .any l.toArray = true)
    (h : wpQuiet P l.toArray (fun w' => ∃ n : Later w, w' = n.world) (fun a' => ∀ w', (∃ n : Later w, w' = n.world) → Q .normal a' w') l a) : (Code.region id l.toArray true).wp P Q a w :=
  wp_region_quiet (C := fun w' => ∃ n : Later w, w' = n.world) hm hB ⟨⟨{ w with drawn := w.drawn + 1 }, ⟨rfl, rfl, rfl, Nat.le_refl _, fun _ _ => rfl⟩⟩, rfl⟩ (by simpa using h)
theorem calls_later {P : Program} {f : FuncId} {args : Array Value} {w : World} {n : Later w} {v : Value} (h : Calls P f args n.world fun e w' => e = .returned v ∧ Below n.world.heap.size n.world w') :
    Calls P f args n.world fun e w'' => e = .returned v ∧ ∃ m : Later w, w'' = m.world :=
  h.mono fun _ w'' ⟨he, hb⟩ => ⟨he, ⟨w'', n.below.trans (hb.mono n.below.size)⟩, rfl⟩
theorem calls_later_same {P : Program} {f : FuncId} {args : Array Value} {w : World} {n : Later w} {v : Value} (h : Calls P f args n.world fun e w' => e = .returned v ∧ n.world = w') :
    Calls P f args n.world fun e w'' => e = .returned v ∧ ∃ m : Later w, w'' = m.world :=
  h.mono fun _ _ ⟨he, hb⟩ => ⟨he, n, hb.symm⟩
theorem Later.cell {w : World} {a : Addr} {v : Value} (h : w.cell? a = some v) (n : Later w) : n.world.cell? a = some v := cell_later n.below h
end Go.Proofs.YtpccgdlgfblaeaaDoor
