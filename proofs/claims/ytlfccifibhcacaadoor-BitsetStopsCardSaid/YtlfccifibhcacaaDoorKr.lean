/- Small laws on slices that are read and on rows that are owned. -/
import Derived.Test.YtlfccifibhcacaaDoorKq
namespace Go.Proofs.YtlfccifibhcacaaDoor
open Go.RowKit
set_option linter.unusedVariables false
set_option linter.unusedSimpArgs false

theorem rds_one' (w : World) (x : Value) (t : TypeId) : Rds (fun _ => True) (w.alloc (.cells #[x] t)) (.slice (some ⟨w.heap.size, 0, none⟩) 1 1) 1 1 [x] := by
  refine ⟨rfl, _, 1, rfl, Nat.le_refl _, .inr ⟨_, 0, rfl, trivial, by simp, fun j u hj => ?_⟩⟩
  have := cell_one_new w x t j u hj
  rw [add_plain'] at this
  rwa [Nat.zero_add]
theorem own_slice' {w : World} {base n : Nat} {e : TypeId} {size : Nat} {v : Value} {xs : List Value} (h : w.ownsRow base e size v n xs) : ∃ A c, v = .slice A n c := by
  rcases h.2 with ⟨rfl, rfl⟩ | ⟨g, cap, _, rfl, _⟩
  · exact ⟨none, 0, rfl⟩
  · exact ⟨_, cap, rfl⟩
theorem grown_blk {w w1 : World} {g : Nat} {o : Obj} {row : Option Nat} (hg : w.grownBy w1 row) (h : w.heap[g]? = some o) (hne : some g ≠ row) : w1.heap[g]? = some o := (hg.block g (blklt h) hne).trans h
theorem cell_below {w : World} {p : Addr} {v : Value} (h : w.cell? p = some v) : p.block < w.heap.size := World.block_lt_of_cell? w p h

end Go.Proofs.YtlfccifibhcacaaDoor
