/- QueueOrder: for every list of pairs, what was pushed into any queue is popped in that order, each once, and the law returns true, leaving its argument as it was. No condition. -/
import Derived.Test.YtlfccifibhcacaaQx
import Derived.Test.YtlfccifibhcacaaRo
namespace Go.Proofs.Ytlfccifibhcacaa
open Go.ChangeShapes Go.WideShapes Go.ChangeAt Go.RowKit Go.Deep
set_option linter.unusedVariables false
set_option linter.unusedSimpArgs false

theorem queueOrder (A : Option Addr) (len cap : Nat) (d0 d1 : Nat → Nat) (w : World) (hA : IsPairs w A len d0 d1) :
    Calls Try.prog 6 #[.slice A len cap] w fun e w' => e = .returned (.bool true) ∧ Below w.heap.size w w' := by
  have key : Calls Try.prog 6 #[.slice A len cap] w fun e w' => e = .returned (.bool true) ∧ Keeps (fun _ => False) w w' := by
    by_cases hl : 60 < len
    · exact order_long A len cap w hl
    · exact order_walk A len cap d0 d1 w (by omega) hA
  exact key.mono fun e w' ⟨h1, h2⟩ => ⟨h1, h2.toBelow (fun _ h => h.elim) (Nat.le_refl _)⟩

theorem list_two {α : Type} {l : List α} (h : l.length = 2) : ∃ a b, l = [a, b] :=
  match l, h with
  | [a, b], _ => ⟨a, b, rfl⟩

theorem open_pairs {H : Type} {enc : TypeId × Value → H} {w : World} {A : Option Addr} {len cap : Nat} {d : DataW H} {p : List MemPlace}
    (h : DataW.Trod enc Try.prog w 0 (fun _ => true) true 85 (.slice A len cap) d p) : ∃ d0 d1, IsPairs w A len d0 d1 := by
  obtain ⟨_, C, hC, hA⟩ := open_flat (e := 86) (sz := 2) (fun cs => ∃ x y : Nat, x < 256 ∧ y < 256 ∧ cs = [.int .u8 x, .int .u8 y]) Try.underlying85 (by kernel_rfl) (by omega) (fun fuel cs x hx => by
    obtain ⟨ys, m, _, _, hlen, hl, hf⟩ := DataW.trod_array (n := 2) (e := 5) Try.underlying86 hx
    have c5 : Try.prog.cellsOf 5 = 1 := by kernel_rfl
    have c86 : Try.prog.cellsOf 86 = 2 := by kernel_rfl
    rw [c86] at hlen
    have f0 := hf 0 (by omega)
    have f1 := hf 1 (by omega)
    rw [c5] at f0 f1
    obtain ⟨y0, y1, rfl⟩ := list_two hl
    obtain ⟨v0, v1, rfl⟩ := list_two hlen
    have done : [v0, v1] = [v0, v1] → ∃ x y : Nat, x < 256 ∧ y < 256 ∧ [v0, v1] = [Value.int .u8 x, .int .u8 y] := fun _ => by
      simp at f0 f1
      obtain ⟨x0, e0, _, w0⟩ := DataW.trod_int Try.underlying5 f0
      obtain ⟨x1, e1, _, w1⟩ := DataW.trod_int Try.underlying5 f1
      simp at e0 e1
      obtain ⟨a, rfl, ha⟩ := u8_range w0
      obtain ⟨b, rfl, hb⟩ := u8_range w1
      exact ⟨a, b, ha, hb, by rw [e0, e1]⟩
    exact done rfl) h
  have g : ∀ i, i < len → ∃ q : Nat × Nat, q.1 < 256 ∧ q.2 < 256 ∧ C i = [.int .u8 q.1, .int .u8 q.2] := fun i hi => by
    obtain ⟨_, x, y, h1, h2, h3⟩ := hC i hi
    exact ⟨(x, y), h1, h2, h3⟩
  obtain ⟨q, hq⟩ := choose_lt (p := fun i (q : Nat × Nat) => q.1 < 256 ∧ q.2 < 256 ∧ C i = [.int .u8 q.1, .int .u8 q.2]) g
  refine ⟨fun i => (q i).1, fun i => (q i).2, fun hpos => ?_⟩
  obtain ⟨b, o, rfl, hb, hcell⟩ := hA hpos
  refine ⟨b, o, rfl, hb, fun i hi => ?_⟩
  obtain ⟨h1, h2, h3⟩ := hq i hi
  exact ⟨hcell i hi 0 _ (by rw [h3]; rfl), hcell i hi 1 _ (by rw [h3]; rfl), h1, h2⟩

set_option maxRecDepth 100000 in
theorem queueOrder_lifted (os : Os) (started : os.Started) (H : Type) (enc : TypeId × Value → H) :
    ReturnsInHanded {} Try.checked os 6 .any (Rows.queueOrderSpec.pre6 enc Try.prog Try.f6 Rows.queueOrderRow.domain false) (Rows.queueOrderSpec.post enc Try.prog Try.f6 false true false false) := by
  refine returnsInHanded_of_change_sized (C := Try.checked) Try.own' started (by kernel_rfl) Try.func6
    (ChangeSpec.witness6 (enc := enc) (C := Try.checked) false ⟨#[], #[.slice none 0 0], []⟩ 8 (by kernel_rfl) (by kernel_rfl) (by kernel_rfl) (by kernel_rfl)) ?_
  intro W base args ds gs before hval0 hW hcnd hsz0 _
  have hval : ∀ (j : Nat) t v, Try.f6.params[j]? = some t → args[j]? = some v → Value.okWide Try.prog W .any base t v := hval0
  have hW' := hW
  obtain ⟨p, q, hA0, hV, rfl, hfz, hnd⟩ := hW
  have hA : DataW.TrodAll enc Try.prog W 0 (fun _ => true) true Try.f6.params.toList args.toList ds p := hA0
  rw [Try.params6] at hA hval
  obtain ⟨v0, vs0, d0, ds0, p0, q0, hargs, rfl, rfl, h0, r0⟩ := trodAll_cons hA
  obtain ⟨rfl, rfl, rfl⟩ := trodAll_nil r0
  obtain rfl : args = #[v0] := by cases args; simp_all
  obtain ⟨rfl, rfl⟩ := trodVars_none hV
  obtain ⟨a0, len0, cap0, rfl⟩ := okWide_slice Try.underlying85 (hval 0 85 v0 rfl rfl)
  have k0 := h0
  have lt0 : ∀ x ∈ p0, x.block < W.heap.size := by obtain ⟨m, hm⟩ := k0; exact DataW.trod_lt m _ _ _ hm
  obtain ⟨dd, xx, s0⟩ := open_pairs h0
  clear hA0 hval0 hsz0
  refine (queueOrder a0 len0 cap0 dd xx W s0).mono fun e W' ⟨he, bel⟩ => ?_
  subst he
  exact ⟨_, rfl, _, _, _, [], _, [], hW', trodAll_mk1 (shut_bool Try.underlying4 _), trodAll_cons_mk (Below.trod Try.laidOut' (by kernel_rfl) (of_decide_eq_true (by kernel_rfl)) k0 bel lt0) trodAll_mk0, rfl, bel.frame _, fun h => by cases h⟩

theorem queueOrder_holds : Rows.QueueOrderSaid :=
  OpenClaim.holds_of_wide 6 Try.f6 rfl rfl rfl rfl rfl rfl rfl ⟨rfl, rfl, rfl, rfl, rfl⟩ rfl rfl rfl rfl rfl (by kernel_rfl) Try.func6 (by kernel_rfl)
    (of_decide_eq_true (by kernel_rfl)) (by unfold Func.isWrapper; first | (rw [if_pos (by decide +kernel)]; kernel_rfl) | (rw [if_neg (by decide +kernel)]; exact ⟨rfl, rfl⟩))
    (fun os started H enc _ => queueOrder_lifted os started H enc)
#print axioms queueOrder_holds
end Go.Proofs.Ytlfccifibhcacaa
