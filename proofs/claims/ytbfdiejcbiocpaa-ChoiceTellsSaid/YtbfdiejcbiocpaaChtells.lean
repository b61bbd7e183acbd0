/- ChoiceTells: whether any choices may be, and their bytes, are the document's; the law returns true, leaving its arguments as they were. No condition. -/
import Derived.Test.YtbfdiejcbiocpaaCn
import Derived.Test.YtbfdiejcbiocpaaCy
import Derived.ChangeMaps5
namespace Go.Proofs.Ytbfdiejcbiocpaa
open Go.ChangeMaps Go.ChangeShapes Go.WideShapes Go.ChangeAt Go.RowKit Go.Deep
set_option linter.unusedVariables false
set_option linter.unusedSimpArgs false

theorem open_ch {H : Type} {enc : TypeId × Value → H} {w : World} {v : Value} {d : DataW H} {p : List MemPlace} {r : Reach} {b0 : Nat} (hval : Value.okWide Try.prog w r b0 24 v)
    (h : DataW.Trod enc Try.prog w 0 (fun _ => true) true 24 v d p) : ∃ c : Ch, v = chV c := by
  obtain ⟨arr, rfl, hsz⟩ := okWide_struct Try.underlying24 hval
  obtain ⟨fuel, hx⟩ := h
  obtain ⟨ys, m, _, _, hlen, hl, hf⟩ := DataW.trod_struct Try.underlying24 hx
  have c3 : Try.prog.cellsOf 3 = 1 := by kernel_rfl
  have c24 : Try.prog.cellsOf 24 = 3 := by kernel_rfl
  have f0 : DataW.trod enc Try.prog w 0 (fun _ => true) true m 3 ((arr.toList.drop 0).take (Try.prog.cellsOf 3)) = ys[0]? := hf 0 _ rfl
  have f1 : DataW.trod enc Try.prog w 0 (fun _ => true) true m 3 ((arr.toList.drop 1).take (Try.prog.cellsOf 3)) = ys[1]? := hf 1 _ rfl
  have f2 : DataW.trod enc Try.prog w 0 (fun _ => true) true m 3 ((arr.toList.drop 2).take (Try.prog.cellsOf 3)) = ys[2]? := hf 2 _ rfl
  rw [c3] at f0 f1 f2
  have hlen' : arr.toList.length = 3 := hlen.trans c24
  obtain ⟨y0, y1, y2, rfl⟩ := three_of hl
  obtain ⟨v0, v1, v2, hv⟩ := three_of hlen'
  have harr : arr = #[v0, v1, v2] := by apply Array.ext'; rw [hv]
  subst harr
  simp at f0 f1 f2
  obtain ⟨x0, e0, _, w0⟩ := DataW.trod_int Try.underlying3 f0
  obtain ⟨x1, e1, _, w1⟩ := DataW.trod_int Try.underlying3 f1
  obtain ⟨x2, e2, _, w2⟩ := DataW.trod_int Try.underlying3 f2
  simp at e0 e1 e2
  exact ⟨⟨x0, x1, x2⟩, by rw [e0, e1, e2]⟩

theorem sized_chs {H : Type} {enc : TypeId × Value → H} {w : World} {A : Option Addr} {len cap : Nat} {d : DataW H} {p : List MemPlace} {tt : List TypeId} {dd : List (DataW H)}
    (h : DataW.Trod enc Try.prog w 0 (fun _ => true) true 22 (.slice A len cap) d p) (hz : (DataW.weightsEach Try.prog (22 :: tt) (d :: dd)).all (· ≤ reachBytes) = true) : len * 24 ≤ 140737488351232 := by
  obtain ⟨fuel, hf⟩ := h
  rcases open_slice Try.underlying22 hf with ⟨hcs, _⟩ | ⟨a, l, c, m, n, D, Pl, hcs, _, hl, hm, hmm, hx, _⟩
  · simp [Value.cells] at hcs
    obtain ⟨rfl, rfl, rfl⟩ := hcs
    omega
  · simp [Value.cells] at hcs
    obtain ⟨rfl, rfl, rfl⟩ := hcs
    obtain ⟨rfl, _⟩ := Prod.mk.inj hx
    have := sized_slice hz (j := 0) (t := 22) (e := 24) rfl rfl Try.underlying22
    have e24 : Try.prog.bytesOf 24 = 24 := by kernel_rfl
    have er : reachBytes = 140737488351232 := rfl
    rw [e24, er] at this
    simp at this
    omega

set_option maxRecDepth 100000 in
theorem choiceTells_lifted (os : Os) (started : os.Started) (H : Type) (enc : TypeId × Value → H) :
    ReturnsInHanded {} Try.checked os 3 .any (Rows.choiceTellsSpec.pre6 enc Try.prog Try.f3 Rows.choiceTellsRow.domain false) (Rows.choiceTellsSpec.post enc Try.prog Try.f3 false true false false) := by
  refine returnsInHanded_of_change_sized (C := Try.checked) Try.own' started (by kernel_rfl) Try.func3
    (ChangeSpec.witness6 (enc := enc) (C := Try.checked) false ⟨#[], #[.slice none 0 0, .agg #[.int .i64 0, .int .i64 0, .int .i64 0]], []⟩ 8 (by kernel_rfl) (by kernel_rfl) (by kernel_rfl) (by kernel_rfl)) ?_
  intro W base args ds gs before hval0 hW hcnd hsz0 _
  have hval : ∀ (j : Nat) t v, Try.f3.params[j]? = some t → args[j]? = some v → Value.okWide Try.prog W .any base t v := hval0
  have hW' := hW
  obtain ⟨p, q, hA0, hV, rfl, hfz, hnd⟩ := hW
  have hA : DataW.TrodAll enc Try.prog W 0 (fun _ => true) true Try.f3.params.toList args.toList ds p := hA0
  rw [Try.params3] at hA hval
  obtain ⟨v0, vs0, d0, ds0, p0, q0, hargs, rfl, rfl, h0, r0⟩ := trodAll_cons hA
  obtain ⟨v1, vs1, d1, ds1, p1, q1, rfl, rfl, rfl, h1, r1⟩ := trodAll_cons r0
  obtain ⟨rfl, rfl, rfl⟩ := trodAll_nil r1
  obtain rfl : args = #[v0, v1] := by cases args; simp_all
  obtain ⟨rfl, rfl⟩ := trodVars_none hV
  obtain ⟨a0, len0, cap0, rfl⟩ := okWide_slice Try.underlying22 (hval 0 22 v0 rfl rfl)
  have k0 := h0
  have lt0 : ∀ x ∈ p0, x.block < W.heap.size := by obtain ⟨m, hm⟩ := k0; exact DataW.trod_lt m _ _ _ hm
  have k1 := h1
  have lt1 : ∀ x ∈ p1, x.block < W.heap.size := by obtain ⟨m, hm⟩ := k1; exact DataW.trod_lt m _ _ _ hm
  have hz := sized_chs h0 hsz0
  obtain ⟨cs, rfl, hcs⟩ := open_chs h0
  obtain ⟨c, rfl⟩ := open_ch (hval 1 24 v1 rfl rfl) h1
  clear hA0 hval0 hsz0
  refine (l_tells _ cs _ c W hcs hz).mono fun e W' ⟨he, hk⟩ => ?_
  subst he
  have bel : Below W.heap.size W W' := hk.toBelow (fun _ h => h.elim) (Nat.le_refl _)
  exact ⟨_, rfl, _, _, _, [], _, [], hW', trodAll_mk1 (shut_bool Try.underlying4 _), trodAll_cons_mk (Below.trod Try.laidOut' (by kernel_rfl) (of_decide_eq_true (by kernel_rfl)) k0 bel lt0) (trodAll_cons_mk (Below.trod Try.laidOut' (by kernel_rfl) (of_decide_eq_true (by kernel_rfl)) k1 bel lt1) trodAll_mk0), rfl, bel.frame _, fun h => by cases h⟩

theorem choiceTells_holds : Rows.ChoiceTellsSaid :=
  OpenClaim.holds_of_wide 3 Try.f3 rfl rfl rfl rfl rfl rfl rfl ⟨rfl, rfl, rfl, rfl, rfl⟩ rfl rfl rfl rfl rfl (by kernel_rfl) Try.func3 (by kernel_rfl)
    (of_decide_eq_true (by kernel_rfl)) (by unfold Func.isWrapper; first | (rw [if_pos (by decide +kernel)]; kernel_rfl) | (rw [if_neg (by decide +kernel)]; exact ⟨rfl, rfl⟩))
    (fun os started H enc _ => choiceTells_lifted os started H enc)
#print axioms choiceTells_holds
end Go.Proofs.Ytbfdiejcbiocpaa
