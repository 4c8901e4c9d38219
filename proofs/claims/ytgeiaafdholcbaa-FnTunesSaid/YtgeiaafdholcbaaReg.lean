/-
  Regions that draw their order and whose operations read only, whose callees may lay blocks of their own: one walk in the order of the text, over the class of all worlds that are as the first one was below a block number.
-/
import Derived.Test.YtgeiaafdholcbaaGo
import Derived.Deep.QuietTactic
import Derived.BigQuiet
set_option linter.unusedVariables false
set_option linter.unusedSimpArgs false
namespace Go.Proofs.Ytgeiaafdholcbaa
open Go.RowKit

/-- A world that is as w0 was below block number B. -/
structure GB (B : Nat) (w0 : World) where
  w : World
  h : Below B w0 w

instance (B : Nat) (w0 : World) : Nonempty (GB B w0) := ⟨⟨w0, Below.refl _ _⟩⟩

theorem wp_region_gb {P : Program} {id : Nat} {Q : Exit → Act → World → Prop} {a : Act} {B : Nat} {w0 : World} {l : List Oper} (hm : P.follows .mixedOrders = true) (hB : Region.lexB .any l.toArray = true)
    (h : wpQuiet P l.toArray (fun w' => ∃ p : GB B w0, w' = p.w) (fun a' => ∀ w', (∃ p : GB B w0, w' = p.w) → Q .normal a' w') l a) : (Code.region id l.toArray true).wp P Q a w0 :=
  wp_region_quiet (C := fun w' => ∃ p : GB B w0, w' = p.w) hm hB ⟨⟨w0.drew, (Below.refl _ _).drew⟩, rfl⟩ (by simpa using h)

theorem GB.size {B : Nat} {w0 : World} (p : GB B w0) (hB : B ≤ w0.heap.size) : B ≤ p.w.heap.size := Nat.le_trans hB p.h.size

theorem gb_same {P : Program} {f : FuncId} {args : Array Value} {B : Nat} {w0 : World} {p : GB B w0} {v : Value}
    (h : Calls P f args p.w fun e w' => e = .returned v ∧ p.w = w') : Calls P f args p.w fun e w'' => e = .returned v ∧ ∃ q : GB B w0, w'' = q.w :=
  h.mono fun _ _ ⟨he, hm⟩ => ⟨he, p, hm.symm⟩

theorem gb_below {P : Program} {f : FuncId} {args : Array Value} {B : Nat} {w0 : World} {p : GB B w0} {v : Value} (hB : B ≤ w0.heap.size)
    (h : Calls P f args p.w fun e w' => e = .returned v ∧ Below p.w.heap.size p.w w') : Calls P f args p.w fun e w'' => e = .returned v ∧ ∃ q : GB B w0, w'' = q.w :=
  h.mono fun _ w' ⟨he, hm⟩ => ⟨he, ⟨w', p.h.trans (hm.mono (p.size hB))⟩, rfl⟩

theorem bcell {W w1 : World} (hb : Below W.heap.size W w1) : (∀ b o, b < W.heap.size → w1.cell? ⟨b, o, none⟩ = W.cell? ⟨b, o, none⟩) ∧ (∀ b o, b < W.heap.size → w1.frozen? ⟨b, o, none⟩ = W.frozen? ⟨b, o, none⟩) :=
  ⟨fun b o h => hb.cell (p := ⟨b, o, none⟩) h, fun b o h => hb.frozen (p := ⟨b, o, none⟩) h⟩

theorem GB.cell {B : Nat} {w0 : World} {b o : Nat} {v : Value} (hb : b < B) (h : w0.cell? ⟨b, o, none⟩ = some v) (p : GB B w0) : p.w.cell? ⟨b, o, none⟩ = some v := by
  rw [p.h.cell (p := ⟨b, o, none⟩) hb]; exact h

end Go.Proofs.Ytgeiaafdholcbaa
