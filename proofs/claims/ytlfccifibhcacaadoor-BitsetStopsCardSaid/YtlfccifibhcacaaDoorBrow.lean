/- BitsetStops: the row. -/
import Derived.Test.YtlfccifibhcacaaDoorRows
import Derived.Test.YtlfccifibhcacaaDoorBy
import Derived.Test.YtlfccifibhcacaaDoorBeb
import Derived.ShutString
import Derived.ChangeOld
import Derived.Below
import Derived.WalkKit
import Derived.ProofKit
import Derived.LaidMore
import Derived.OpenShut
import Derived.Stop.Joined
namespace Go.Proofs.YtlfccifibhcacaaDoor
open Go.ChangeShapes Go.WideShapes Go.ChangeAt Go.RowKit
set_option linter.unusedVariables false
set_option linter.unusedSimpArgs false

theorem own' : ownKnob Tryd.prog.godebug = none := by kernel_rfl
theorem gTab : Tryd.prog.globalNamed "math/bits.deBruijn64tab" = some 0 := by kernel_rfl
theorem tTab : (Tryd.prog.globals[0]?).map (·.type) = some 43 := by kernel_rfl
theorem laid_list {H : Type} : (Rows.laid_math_bits_deBruijn64tab : DataW H) = .agg (Lib.deBruijn64tab.map (fun x : Nat => .lit (.int .u8 x))) := rfl
abbrev laidT {H : Type} : List (String × DataW H) := [("math/bits.deBruijn64tab", Rows.laid_math_bits_deBruijn64tab)]
theorem of_laid {W : World} (h : laidMetH Tryd.prog (laidT) W) : Tab W := by
  rw [MakeChecks.laidMetH_plain _ _ _ (by kernel_rfl)] at h
  obtain ⟨ps, ⟨g0, t0, cs0, f0, p0, q0, hg0, ht0, hv0, hd0, _, _⟩, _, _⟩ := h
  obtain rfl := Option.some.inj (gTab.symm.trans hg0)
  obtain rfl := Option.some.inj (tTab.symm.trans ht0)
  obtain ⟨xs, m1, rfl, hx1, hlen, hn3, hel⟩ := DataW.trod_array Tryd.underlying43 hd0
  have c5 : Tryd.prog.cellsOf 5 = 1 := by kernel_rfl
  rw [laid_list] at hx1
  simp only [Prod.mk.injEq, DataW.agg.injEq] at hx1
  intro j hj
  have hj64 : j < 64 := hj
  have h0 := hel j hj64
  rw [c5] at h0
  have hxj : j < xs.length := by omega
  rw [List.getElem?_eq_getElem hxj] at h0
  obtain ⟨k, e1, e2, _⟩ := DataW.trod_int Tryd.underlying5 h0
  have hm := congrArg (fun l => l[j]?) hx1.1
  have hk : k = (Lib.deBruijn64tab.getD j 0 : Nat) := by
    rw [List.getElem?_map, List.getElem?_map, List.getElem?_eq_getElem hxj, List.getElem?_eq_getElem hj, Option.map_some, Option.map_some, e2] at hm
    have h1 := Option.some.inj hm
    injection h1 with h1
    injection h1 with _ h1
    rw [← h1]
    simp [List.getD, List.getElem?_eq_getElem hj]
  have hcj : cs0[j]? = some (.int .u8 k) := by
    have h2 := congrArg (fun l : List Value => l[0]?) e1
    simpa [List.getElem?_take, List.getElem?_drop] using h2
  have hv := World.var?_cell hg0 hv0 j
  rw [hk] at hcj
  exact hv.trans hcj

theorem door_met (os : Os) (args : Array Value) : laidMetH Tryd.prog laidT ((World.doorLaid Tryd.prog 400 os).forCall (fun _ _ => 0) ⟨#[], args, []⟩).memory :=
  laidMetH_of_parts3 (fuel := 8) (laidMet_of_run' 8 (by kernel_rfl) (by kernel_rfl)) (by kernel_rfl) (by kernel_rfl)

theorem four_of {α : Type} {l : List α} (h : l.length = 4) : ∃ a b c d, l = [a, b, c, d] :=
  match l, h with
  | [a, b, c, d], _ => ⟨a, b, c, d, rfl⟩
theorem u64_range {x : Int} (h : (Lit.int .u64 x).wf = true) : ∃ k : Nat, x = (k : Int) ∧ k < 18446744073709551616 := by
  have hb : IntKind.u64.min ≤ x ∧ x ≤ IntKind.u64.max := by simpa [Lit.wf] using h
  have e1 : IntKind.u64.min = 0 := rfl
  have e2 : IntKind.u64.max = 18446744073709551615 := rfl
  exact ⟨x.toNat, by omega, by omega⟩
theorem u8_range {x : Int} (h : (Lit.int .u8 x).wf = true) : ∃ k : Nat, x = (k : Int) ∧ k < 256 := by
  have hb : IntKind.u8.min ≤ x ∧ x ≤ IntKind.u8.max := by simpa [Lit.wf] using h
  have e1 : IntKind.u8.min = 0 := rfl
  have e2 : IntKind.u8.max = 255 := rfl
  exact ⟨x.toNat, by omega, by omega⟩
theorem open_set {H : Type} {enc : TypeId × Value → H} {w : World} {v : Value} {d : DataW H} {p : List MemPlace} {r : Reach} {b0 : Nat} (hval : Value.okWide Tryd.prog w r b0 23 v)
    (h : DataW.Trod enc Tryd.prog w 0 (fun _ => true) true 23 v d p) : ∃ S : Nat → Nat, v = setV S ∧ W64 S := by
  obtain ⟨arr, rfl, hsz⟩ : ∃ cs, v = .agg cs ∧ cs.size = Tryd.prog.cellsOf 23 := by
    simp only [Value.okWide, Tryd.underlying23] at hval
    obtain ⟨cs, h1, h2, _⟩ := hval
    exact ⟨cs, h1, h2⟩
  obtain ⟨fuel, hx⟩ := h
  obtain ⟨ys, m, _, _, hlen, hl, hf⟩ := DataW.trod_array Tryd.underlying23 hx
  have c22 : Tryd.prog.cellsOf 22 = 1 := by kernel_rfl
  have c23 : Tryd.prog.cellsOf 23 = 4 := by kernel_rfl
  have hlen' : arr.toList.length = 4 := hlen.trans c23
  have f0 := hf 0 (by omega)
  have f1 := hf 1 (by omega)
  have f2 := hf 2 (by omega)
  have f3 := hf 3 (by omega)
  rw [c22] at f0 f1 f2 f3
  obtain ⟨y0, y1, y2, y3, rfl⟩ := four_of hl
  obtain ⟨v0, v1, v2, v3, hv⟩ := four_of hlen'
  have harr : arr = #[v0, v1, v2, v3] := by apply Array.ext'; rw [hv]
  subst harr
  simp at f0 f1 f2 f3
  obtain ⟨x0, e0, _, w0⟩ := DataW.trod_int Tryd.underlying22 f0
  obtain ⟨x1, e1, _, w1⟩ := DataW.trod_int Tryd.underlying22 f1
  obtain ⟨x2, e2, _, w2⟩ := DataW.trod_int Tryd.underlying22 f2
  obtain ⟨x3, e3, _, w3⟩ := DataW.trod_int Tryd.underlying22 f3
  simp [Value.cells] at e0 e1 e2 e3
  obtain ⟨a, rfl, ha⟩ := u64_range w0
  obtain ⟨b, rfl, hb⟩ := u64_range w1
  obtain ⟨c, rfl, hc⟩ := u64_range w2
  obtain ⟨d, rfl, hd⟩ := u64_range w3
  refine ⟨fun k => if k = 0 then a else if k = 1 then b else if k = 2 then c else d, by rw [e0, e1, e2, e3]; rfl, fun k => ?_⟩
  show (if k = 0 then a else if k = 1 then b else if k = 2 then c else d) < _
  split
  · exact ha
  split
  · exact hb
  split
  · exact hc
  · exact hd

set_option maxRecDepth 100000 in
theorem bitsetStops_lifted (os : Os) (started : os.Started) (H : Type) (enc : TypeId × Value → H) :
    ReturnsInHanded {} Tryd.checked os 3 .any (fun w args => (Rows.bitsetStopsSpec.pre enc Tryd.prog Tryd.f3 [] false w args ∧ laidMetH Tryd.prog laidT w) ∧ sizedMet enc Tryd.prog Tryd.f3 (OpenSpec.ofChange Rows.bitsetStopsSpec) false w args)
      (Rows.bitsetStopsSpec.post enc Tryd.prog Tryd.f3 false true false false) := by
  refine returnsInHanded_of_change_and (C := Tryd.checked) (X := fun w _ => laidMetH Tryd.prog laidT w) (fun _ _ _ hh h => h.of_heap hh) own' started (by kernel_rfl) Tryd.func3
    (ChangeSpec.witness_shaped (enc := enc) (C := Tryd.checked) (os := os) (X := fun w _ => laidMetH Tryd.prog laidT w) false (World.doorLaid Tryd.prog 400 os) #[.agg #[.int .u64 0, .int .u64 0, .int .u64 0, .int .u64 0], .int .u8 0] 8 rfl (World.shaped_of_RefB (by kernel_rfl) (by kernel_rfl)) (by kernel_rfl) (by kernel_rfl) (by kernel_rfl) (door_met os _)) ?_
  intro W base args ds gs before hval0 hW _ _ hL _
  have hval : ∀ (j : Nat) t v, Tryd.f3.params[j]? = some t → args[j]? = some v → Value.okWide Tryd.prog W .any base t v := hval0
  have hW' := hW
  obtain ⟨p, q, hA0, hV, rfl, hfz, hnd⟩ := hW
  have hA : DataW.TrodAll enc Tryd.prog W 0 (fun _ => true) true Tryd.f3.params.toList args.toList ds p := hA0
  rw [Tryd.params3] at hA hval
  obtain ⟨v0, vs0, d0, ds0, p0, q0, hargs, rfl, rfl, h0, r0⟩ := trodAll_cons hA
  obtain ⟨v1, vs1, d1, ds1, p1, q1, rfl, rfl, rfl, h1, r1⟩ := trodAll_cons r0
  obtain ⟨rfl, rfl, rfl⟩ := trodAll_nil r1
  obtain rfl : args = #[v0, v1] := by cases args; simp_all
  obtain ⟨rfl, rfl⟩ := trodVars_none hV
  obtain ⟨a1, rfl, rfl, rfl, w1⟩ := open_int Tryd.underlying5 (hval 1 5 v1 rfl rfl) h1
  have k0 := h0
  have lt0 : ∀ x ∈ p0, x.block < W.heap.size := by obtain ⟨m, hm⟩ := k0; exact DataW.trod_lt m _ _ _ hm
  obtain ⟨S, rfl, hS⟩ := open_set (hval 0 23 v0 rfl rfl) h0
  obtain ⟨t, rfl, ht⟩ := u8_range w1
  have hT := of_laid hL
  have l0 : 0 < W.heap.size := World.block_lt_of_cell? W ⟨0, 0, none⟩ (hT 0 (by decide))
  clear hA0 hval0
  refine (l_stops (fun w hT l0 => p_alive w hT l0) S hS t ht W hT l0).mono fun e W' ⟨he, hk⟩ => ?_
  subst he
  have bel : Below W.heap.size W W' := hk.toBelow (fun _ h => h.elim) (Nat.le_refl _)
  exact ⟨_, rfl, _, _, _, [], _, [], hW', trodAll_mk1 (shut_bool Tryd.underlying4 _), trodAll_cons_mk (Below.trod (show laidOutB Tryd.prog = true by kernel_rfl) (by kernel_rfl) (of_decide_eq_true (by kernel_rfl)) k0 bel lt0) (trodAll_cons_mk (shut_int Tryd.underlying5 w1) trodAll_mk0), rfl, bel.frame _, fun h => by cases h⟩

theorem bitsetStops_holds : Rows.BitsetStopsSaid :=
  OpenClaim.holds_of_wide 3 Tryd.f3 rfl rfl rfl rfl rfl rfl rfl ⟨rfl, rfl, rfl, rfl, rfl⟩ rfl rfl rfl rfl rfl (by kernel_rfl) Tryd.func3 (by kernel_rfl)
    (of_decide_eq_true (by kernel_rfl)) (by unfold Func.isWrapper; first | (rw [if_pos (by decide +kernel)]; kernel_rfl) | (rw [if_neg (by decide +kernel)]; exact ⟨rfl, rfl⟩))
    (fun os started H enc _ => bitsetStops_lifted os started H enc)
end Go.Proofs.YtlfccifibhcacaaDoor
