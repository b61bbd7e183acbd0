/- BucketOnce: for every list of triples, who falls is flushed once, in order, with all that fell into that bucket since it was flushed last; the law returns true, leaving its argument as it was. No condition. -/
import Derived.Test.YtfnlmnpfflnaiaaRows
import Derived.Test.YtfnlmnpfflnaiaaBq
import Derived.WalkKit
import Derived.ProofKit
import Derived.OpenShut
import Derived.ShutString
import Derived.ChangeOld
import Derived.Below
import Derived.SizedLaws
import Derived.Deep.SlicePairs
namespace Go.Proofs.Ytfnlmnpfflnaiaa
open Go.ChangeShapes Go.WideShapes Go.ChangeAt Go.RowKit Go.Deep
set_option linter.unusedVariables false
set_option linter.unusedSimpArgs false

theorem Try.own2 : ownKnob Try.prog.godebug = none := by kernel_rfl
theorem Try.laidOut2 : laidOutB Try.prog = true := by kernel_rfl

/-- A slice of flat elements, opened. -/
theorem open_flat {H : Type} {enc : TypeId × Value → H} {w : World} {t e : TypeId} {A : Option Addr} {len cap sz : Nat} {d : DataW H} {p : List MemPlace} (Pd : List Value → Prop)
    (ht : Try.prog.underlying t = some (.slice e)) (ce : Try.prog.cellsOf e = sz) (hsz : 0 < sz)
    (hP : ∀ fuel cs x, DataW.trod enc Try.prog w 0 (fun _ => true) true fuel e cs = some x → Pd cs)
    (h : DataW.Trod enc Try.prog w 0 (fun _ => true) true t (.slice A len cap) d p) :
    len ≤ cap ∧ ∃ C : Nat → List Value, (∀ i, i < len → (C i).length = sz ∧ Pd (C i)) ∧ (0 < len → ∃ b o, A = some ⟨b, o, none⟩ ∧ b < w.heap.size ∧ ∀ i, i < len → ∀ j u, (C i)[j]? = some u → w.cell? ⟨b, o + i * sz + j, none⟩ = some u) := by
  obtain ⟨fuel, hf⟩ := h
  rcases open_slice ht hf with ⟨hcs, _⟩ | ⟨a, l, c, m, n, D, Pl, hcs, _, hl, hm, hmm, _, hx⟩
  · simp [Value.cells] at hcs
    obtain ⟨rfl, rfl, rfl⟩ := hcs
    exact ⟨Nat.le_refl _, fun _ => [], fun i hi => absurd hi (by omega), fun h => absurd h (by omega)⟩
  · simp [Value.cells] at hcs
    obtain ⟨rfl, rfl, rfl⟩ := hcs
    simp only [if_true] at hmm
    subst hmm
    rw [ce] at hx
    have g : ∀ i, i < len → ∃ cs : List Value, cs.length = sz ∧ Pd cs ∧ ∀ j u, cs[j]? = some u → w.cell? ((a.add (i * sz)).add j) = some u := by
      intro i hi
      obtain ⟨cs', h1, h2⟩ := hx i (by omega)
      obtain ⟨_, hlen, hcell⟩ := World.cells?_some h1
      exact ⟨cs', hlen, hP _ _ _ h2, fun j u hu => by
        have hj := (List.getElem?_eq_some_iff.1 hu).1
        rw [hcell j (by omega), hu]⟩
    obtain ⟨C, hC⟩ := choose_lt (p := fun i (cs : List Value) => cs.length = sz ∧ Pd cs ∧ ∀ j u, cs[j]? = some u → w.cell? ((a.add (i * sz)).add j) = some u) g
    refine ⟨hl, C, fun i hi => ⟨(hC i hi).1, (hC i hi).2.1⟩, fun hpos => ?_⟩
    obtain ⟨h1, _, h3⟩ := hC 0 hpos
    have hne : ∃ u, (C 0)[0]? = some u := ⟨_, List.getElem?_eq_getElem (by omega)⟩
    obtain ⟨u0, hu0⟩ := hne
    have hc0 := h3 0 u0 hu0
    rw [Nat.zero_mul, Addr.add_zero', Addr.add_zero'] at hc0
    obtain ⟨b, o, sp⟩ := a
    have hsp : sp = none := by
      cases sp with
      | none => rfl
      | some s => simp [World.cell?] at hc0; split at hc0 <;> simp at hc0
    subst hsp
    refine ⟨b, o, rfl, cell_below hc0, fun i hi j u hu => ?_⟩
    have := (hC i hi).2.2 j u hu
    rwa [add_off, add_off] at this

theorem u8_range {x : Int} (h : (Lit.int .u8 x).wf = true) : ∃ k : Nat, x = (k : Int) ∧ k < 256 := by
  have hb : IntKind.u8.min ≤ x ∧ x ≤ IntKind.u8.max := by simpa [Lit.wf] using h
  have e1 : IntKind.u8.min = 0 := rfl
  have e2 : IntKind.u8.max = 255 := rfl
  exact ⟨x.toNat, by omega, by omega⟩


theorem bucketOnce (A : Option Addr) (len cap : Nat) (d0 d1 d2 : Nat → Nat) (w : World) (hA : IsTris w A len d0 d1 d2) :
    Calls Try.prog 4 #[.slice A len cap] w fun e w' => e = .returned (.bool true) ∧ Below w.heap.size w w' := by
  have key : Calls Try.prog 4 #[.slice A len cap] w fun e w' => e = .returned (.bool true) ∧ Keeps (fun _ => False) w w' := by
    by_cases hl : 80 < len
    · exact once_long A len cap w hl
    · exact once_walk A len cap d0 d1 d2 w (by omega) hA
  exact key.mono fun e w' ⟨h1, h2⟩ => ⟨h1, h2.toBelow (fun _ h => h.elim) (Nat.le_refl _)⟩

theorem list_three {α : Type} {l : List α} (h : l.length = 3) : ∃ a b c, l = [a, b, c] :=
  match l, h with
  | [a, b, c], _ => ⟨a, b, c, rfl⟩

theorem open_tris {H : Type} {enc : TypeId × Value → H} {w : World} {A : Option Addr} {len cap : Nat} {d : DataW H} {p : List MemPlace}
    (h : DataW.Trod enc Try.prog w 0 (fun _ => true) true 48 (.slice A len cap) d p) : ∃ d0 d1 d2, IsTris w A len d0 d1 d2 := by
  obtain ⟨_, C, hC, hA⟩ := open_flat (e := 50) (sz := 3) (fun cs => ∃ x y z : Nat, x < 256 ∧ y < 256 ∧ z < 256 ∧ cs = [.int .u8 x, .int .u8 y, .int .u8 z]) Try.underlying48 (by kernel_rfl) (by omega) (fun fuel cs x hx => by
    obtain ⟨ys, m, _, _, hlen, hl, hf⟩ := DataW.trod_array (n := 3) (e := 5) Try.underlying50 hx
    have c5 : Try.prog.cellsOf 5 = 1 := by kernel_rfl
    have c50 : Try.prog.cellsOf 50 = 3 := by kernel_rfl
    rw [c50] at hlen
    have f0 := hf 0 (by omega)
    have f1 := hf 1 (by omega)
    have f2 := hf 2 (by omega)
    rw [c5] at f0 f1 f2
    obtain ⟨y0, y1, y2, rfl⟩ := list_three hl
    obtain ⟨v0, v1, v2, rfl⟩ := list_three hlen
    have done : [v0, v1, v2] = [v0, v1, v2] → ∃ x y z : Nat, x < 256 ∧ y < 256 ∧ z < 256 ∧ [v0, v1, v2] = [Value.int .u8 x, .int .u8 y, .int .u8 z] := fun _ => by
      simp at f0 f1 f2
      obtain ⟨x0, e0, _, w0⟩ := DataW.trod_int Try.underlying5 f0
      obtain ⟨x1, e1, _, w1⟩ := DataW.trod_int Try.underlying5 f1
      obtain ⟨x2, e2, _, w2⟩ := DataW.trod_int Try.underlying5 f2
      simp at e0 e1 e2
      obtain ⟨a, rfl, ha⟩ := u8_range w0
      obtain ⟨b, rfl, hb⟩ := u8_range w1
      obtain ⟨c, rfl, hc⟩ := u8_range w2
      exact ⟨a, b, c, ha, hb, hc, by rw [e0, e1, e2]⟩
    exact done rfl) h
  have g : ∀ i, i < len → ∃ q : Nat × Nat × Nat, q.1 < 256 ∧ q.2.1 < 256 ∧ q.2.2 < 256 ∧ C i = [.int .u8 q.1, .int .u8 q.2.1, .int .u8 q.2.2] := fun i hi => by
    obtain ⟨_, x, y, z, h1, h2, h3, h4⟩ := hC i hi
    exact ⟨(x, y, z), h1, h2, h3, h4⟩
  obtain ⟨q, hq⟩ := choose_lt (p := fun i (q : Nat × Nat × Nat) => q.1 < 256 ∧ q.2.1 < 256 ∧ q.2.2 < 256 ∧ C i = [.int .u8 q.1, .int .u8 q.2.1, .int .u8 q.2.2]) g
  refine ⟨fun i => (q i).1, fun i => (q i).2.1, fun i => (q i).2.2, fun hpos => ?_⟩
  obtain ⟨b, o, rfl, hb, hcell⟩ := hA hpos
  refine ⟨b, o, rfl, hb, fun i hi => ?_⟩
  obtain ⟨h1, h2, h3, h4⟩ := hq i hi
  exact ⟨hcell i hi 0 _ (by rw [h4]; rfl), hcell i hi 1 _ (by rw [h4]; rfl), hcell i hi 2 _ (by rw [h4]; rfl), h1, h2, h3⟩

set_option maxRecDepth 100000 in
theorem bucketOnce_lifted (os : Os) (started : os.Started) (H : Type) (enc : TypeId × Value → H) :
    ReturnsInHanded {} Try.checked os 4 .any (Rows.bucketOnceSpec.pre6 enc Try.prog Try.f4 Rows.bucketOnceRow.domain false) (Rows.bucketOnceSpec.post enc Try.prog Try.f4 false true false false) := by
  refine returnsInHanded_of_change_sized (C := Try.checked) Try.own2 started (by kernel_rfl) Try.func4
    (ChangeSpec.witness6 (enc := enc) (C := Try.checked) false ⟨#[], #[.slice none 0 0], []⟩ 8 (by kernel_rfl) (by kernel_rfl) (by kernel_rfl) (by kernel_rfl)) ?_
  intro W base args ds gs before hval0 hW hcnd hsz0 _
  have hval : ∀ (j : Nat) t v, Try.f4.params[j]? = some t → args[j]? = some v → Value.okWide Try.prog W .any base t v := hval0
  have hW' := hW
  obtain ⟨p, q, hA0, hV, rfl, hfz, hnd⟩ := hW
  have hA : DataW.TrodAll enc Try.prog W 0 (fun _ => true) true Try.f4.params.toList args.toList ds p := hA0
  rw [Try.params4] at hA hval
  obtain ⟨v0, vs0, d0, ds0, p0, q0, hargs, rfl, rfl, h0, r0⟩ := trodAll_cons hA
  obtain ⟨rfl, rfl, rfl⟩ := trodAll_nil r0
  obtain rfl : args = #[v0] := by cases args; simp_all
  obtain ⟨rfl, rfl⟩ := trodVars_none hV
  obtain ⟨a0, len0, cap0, rfl⟩ := okWide_slice Try.underlying48 (hval 0 48 v0 rfl rfl)
  have k0 := h0
  have lt0 : ∀ x ∈ p0, x.block < W.heap.size := by obtain ⟨m, hm⟩ := k0; exact DataW.trod_lt m _ _ _ hm
  obtain ⟨dd, xx, zz, s0⟩ := open_tris h0
  clear hA0 hval0 hsz0
  refine (bucketOnce a0 len0 cap0 dd xx zz W s0).mono fun e W' ⟨he, bel⟩ => ?_
  subst he
  exact ⟨_, rfl, _, _, _, [], _, [], hW', trodAll_mk1 (shut_bool Try.underlying4 _), trodAll_cons_mk (Below.trod Try.laidOut2 (by kernel_rfl) (of_decide_eq_true (by kernel_rfl)) k0 bel lt0) trodAll_mk0, rfl, bel.frame _, fun h => by cases h⟩

theorem bucketOnce_holds : Rows.BucketOnceSaid :=
  OpenClaim.holds_of_wide 4 Try.f4 rfl rfl rfl rfl rfl rfl rfl ⟨rfl, rfl, rfl, rfl, rfl⟩ rfl rfl rfl rfl rfl (by kernel_rfl) Try.func4 (by kernel_rfl)
    (of_decide_eq_true (by kernel_rfl)) (by unfold Func.isWrapper; first | (rw [if_pos (by decide +kernel)]; kernel_rfl) | (rw [if_neg (by decide +kernel)]; exact ⟨rfl, rfl⟩))
    (fun os started H enc _ => bucketOnce_lifted os started H enc)
#print axioms bucketOnce_holds
end Go.Proofs.Ytfnlmnpfflnaiaa
