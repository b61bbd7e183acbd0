/- A region that draws its order and holds calls that make memory, but yield one value in whatever world: walked once, in the order of the text. -/
import Derived.Test.YtlfccifibhcacaaDoorKr
namespace Go.Proofs.YtlfccifibhcacaaDoor
open Go.RowKit
set_option linter.unusedVariables false
set_option linter.unusedSimpArgs false

/-- A world that keeps all that was in w0. -/
structure KW (w0 : World) where
  w : World
  keeps : Keeps (fun _ => False) w0 w

instance (w0 : World) : Nonempty (KW w0) := ⟨⟨w0, Keeps.refl _ _⟩⟩

theorem wp_qkeep {P : Program} {id : Nat} {Q : Exit → Act → World → Prop} {a : Act} {w0 w : World} {l : List Oper} (hw0 : Keeps (fun _ => False) w0 w) (hm : P.follows .mixedOrders = true) (hB : Region.lexB .any l.toArray = true)
    (h : wpQuiet P l.toArray (fun w' => ∃ W : KW w0, w' = W.w) (fun a' => ∀ W : KW w0, Q .normal a' W.w) l a) : (Code.region id l.toArray true).wp P Q a w := by
  refine wp_region_quiet (C := fun w' => ∃ W : KW w0, w' = W.w) hm hB ⟨⟨_, hw0.drew⟩, rfl⟩ ?_
  have e : (fun a' => ∀ w', (∃ W : KW w0, w' = W.w) → Q .normal a' w') = (fun a' => ∀ W : KW w0, Q .normal a' W.w) := by
    funext a'; exact propext ⟨fun h W => h _ ⟨W, rfl⟩, fun h w' ⟨W, e⟩ => e ▸ h W⟩
  rw [e]; exact h

/-- A call whose world keeps all. -/
theorem calls_k {P : Program} {f : FuncId} {args : Array Value} {w0 : World} {W : KW w0} {v : Value}
    (h : Calls P f args W.w fun e w' => e = .returned v ∧ Keeps (fun _ => False) W.w w') : Calls P f args W.w fun e w'' => e = .returned v ∧ ∃ W' : KW w0, w'' = W'.w :=
  h.mono fun _ w' ⟨he, hk⟩ => ⟨he, ⟨w', W.keeps.trans' hk⟩, rfl⟩
end Go.Proofs.YtlfccifibhcacaaDoor
