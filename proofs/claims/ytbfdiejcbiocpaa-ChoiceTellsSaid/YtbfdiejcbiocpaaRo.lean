/- What a slice of flat elements among the arguments of a row reads as. -/
import Derived.Test.YtbfdiejcbiocpaaRows
import Derived.Test.YtbfdiejcbiocpaaKr
import Derived.WalkKit
import Derived.ProofKit
import Derived.OpenShut
import Derived.ShutString
import Derived.ChangeOld
import Derived.Below
import Derived.SizedLaws
import Derived.Deep.SlicePairs
namespace Go.Proofs.Ytbfdiejcbiocpaa
open Go.ChangeShapes Go.WideShapes Go.ChangeAt Go.RowKit Go.Deep
set_option linter.unusedVariables false
set_option linter.unusedSimpArgs false

theorem Try.own' : ownKnob Try.prog.godebug = none := by kernel_rfl
theorem Try.laidOut' : laidOutB Try.prog = true := by kernel_rfl

/-- A slice of flat elements, opened. -/
theorem open_flat {H : Type} {enc : TypeId × Value → H} {w : World} {t e : TypeId} {A : Option Addr} {len cap sz : Nat} {d : DataW H} {p : List MemPlace} (Pd : List Value → Prop)
    (ht : Try.prog.underlying t = some (.slice e)) (ce : Try.prog.cellsOf e = sz) (hsz : 0 < sz)
    (hP : ∀ fuel cs x, DataW.trod enc Try.prog w 0 (fun _ => true) true fuel e cs = some x → Pd cs)
    (h : DataW.Trod enc Try.prog w 0 (fun _ => true) true t (.slice A len cap) d p) :
    len ≤ cap ∧ ∃ C : Nat → List Value, (∀ i, i < len → (C i).length = sz ∧ Pd (C i)) ∧ (0 < len → ∃ b o, A = some ⟨b, o, none⟩ ∧ b < w.heap.size ∧ ∀ i, i < len → ∀ j u, (C i)[j]? = some u → w.cell? ⟨b, o + i * sz + j, none⟩ = some u) := by
  obtain ⟨fuel, hf⟩ := h
  rcases open_slice ht hf with ⟨hcs, _⟩ | ⟨a, l, c, m, n, D, Pl, hcs, _, hl, hm, hmm, _, hx⟩
  · simp [Value.cells] at hcs
    obtain ⟨rfl, rfl, rfl⟩ := hcs
    exact ⟨Nat.le_refl _, fun _ => [], fun i hi => absurd hi (by omega), fun h => absurd h (by omega)⟩
  · simp [Value.cells] at hcs
    obtain ⟨rfl, rfl, rfl⟩ := hcs
    simp only [if_true] at hmm
    subst hmm
    rw [ce] at hx
    have g : ∀ i, i < len → ∃ cs : List Value, cs.length = sz ∧ Pd cs ∧ ∀ j u, cs[j]? = some u → w.cell? ((a.add (i * sz)).add j) = some u := by
      intro i hi
      obtain ⟨cs', h1, h2⟩ := hx i (by omega)
      obtain ⟨_, hlen, hcell⟩ := World.cells?_some h1
      exact ⟨cs', hlen, hP _ _ _ h2, fun j u hu => by
        have hj := (List.getElem?_eq_some_iff.1 hu).1
        rw [hcell j (by omega), hu]⟩
    obtain ⟨C, hC⟩ := choose_lt (p := fun i (cs : List Value) => cs.length = sz ∧ Pd cs ∧ ∀ j u, cs[j]? = some u → w.cell? ((a.add (i * sz)).add j) = some u) g
    refine ⟨hl, C, fun i hi => ⟨(hC i hi).1, (hC i hi).2.1⟩, fun hpos => ?_⟩
    obtain ⟨h1, _, h3⟩ := hC 0 hpos
    have hne : ∃ u, (C 0)[0]? = some u := ⟨_, List.getElem?_eq_getElem (by omega)⟩
    obtain ⟨u0, hu0⟩ := hne
    have hc0 := h3 0 u0 hu0
    rw [Nat.zero_mul, Addr.add_zero', Addr.add_zero'] at hc0
    obtain ⟨b, o, sp⟩ := a
    have hsp : sp = none := by
      cases sp with
      | none => rfl
      | some s => simp [World.cell?] at hc0; split at hc0 <;> simp at hc0
    subst hsp
    refine ⟨b, o, rfl, cell_below hc0, fun i hi j u hu => ?_⟩
    have := (hC i hi).2.2 j u hu
    rwa [add_off, add_off] at this

theorem u8_range {x : Int} (h : (Lit.int .u8 x).wf = true) : ∃ k : Nat, x = (k : Int) ∧ k < 256 := by
  have hb : IntKind.u8.min ≤ x ∧ x ≤ IntKind.u8.max := by simpa [Lit.wf] using h
  have e1 : IntKind.u8.min = 0 := rfl
  have e2 : IntKind.u8.max = 255 := rfl
  exact ⟨x.toNat, by omega, by omega⟩

end Go.Proofs.Ytbfdiejcbiocpaa
