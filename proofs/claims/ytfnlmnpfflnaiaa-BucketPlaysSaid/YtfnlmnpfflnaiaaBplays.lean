/- BucketPlays: any number of buckets answers every call, in every order, as the document's does; the law returns true, leaving its arguments as they were. No condition. -/
import Derived.Test.YtfnlmnpfflnaiaaRows
import Derived.Test.YtfnlmnpfflnaiaaBg
import Derived.WalkKit
import Derived.ProofKit
import Derived.OpenShut
import Derived.ShutString
import Derived.ChangeOld
import Derived.Below
import Derived.SizedLaws
import Derived.Deep.SlicePairs
namespace Go.Proofs.Ytfnlmnpfflnaiaa
open Go.ChangeShapes Go.WideShapes Go.ChangeAt Go.RowKit Go.Deep
set_option linter.unusedVariables false
set_option linter.unusedSimpArgs false

theorem Try.own2 : ownKnob Try.prog.godebug = none := by kernel_rfl
theorem Try.laidOut2 : laidOutB Try.prog = true := by kernel_rfl

/-- A slice of flat elements, opened. -/
theorem open_flat {H : Type} {enc : TypeId × Value → H} {w : World} {t e : TypeId} {A : Option Addr} {len cap sz : Nat} {d : DataW H} {p : List MemPlace} (Pd : List Value → Prop)
    (ht : Try.prog.underlying t = some (.slice e)) (ce : Try.prog.cellsOf e = sz) (hsz : 0 < sz)
    (hP : ∀ fuel cs x, DataW.trod enc Try.prog w 0 (fun _ => true) true fuel e cs = some x → Pd cs)
    (h : DataW.Trod enc Try.prog w 0 (fun _ => true) true t (.slice A len cap) d p) :
    len ≤ cap ∧ ∃ C : Nat → List Value, (∀ i, i < len → (C i).length = sz ∧ Pd (C i)) ∧ (0 < len → ∃ b o, A = some ⟨b, o, none⟩ ∧ b < w.heap.size ∧ ∀ i, i < len → ∀ j u, (C i)[j]? = some u → w.cell? ⟨b, o + i * sz + j, none⟩ = some u) := by
  obtain ⟨fuel, hf⟩ := h
  rcases open_slice ht hf with ⟨hcs, _⟩ | ⟨a, l, c, m, n, D, Pl, hcs, _, hl, hm, hmm, _, hx⟩
  · simp [Value.cells] at hcs
    obtain ⟨rfl, rfl, rfl⟩ := hcs
    exact ⟨Nat.le_refl _, fun _ => [], fun i hi => absurd hi (by omega), fun h => absurd h (by omega)⟩
  · simp [Value.cells] at hcs
    obtain ⟨rfl, rfl, rfl⟩ := hcs
    simp only [if_true] at hmm
    subst hmm
    rw [ce] at hx
    have g : ∀ i, i < len → ∃ cs : List Value, cs.length = sz ∧ Pd cs ∧ ∀ j u, cs[j]? = some u → w.cell? ((a.add (i * sz)).add j) = some u := by
      intro i hi
      obtain ⟨cs', h1, h2⟩ := hx i (by omega)
      obtain ⟨_, hlen, hcell⟩ := World.cells?_some h1
      exact ⟨cs', hlen, hP _ _ _ h2, fun j u hu => by
        have hj := (List.getElem?_eq_some_iff.1 hu).1
        rw [hcell j (by omega), hu]⟩
    obtain ⟨C, hC⟩ := choose_lt (p := fun i (cs : List Value) => cs.length = sz ∧ Pd cs ∧ ∀ j u, cs[j]? = some u → w.cell? ((a.add (i * sz)).add j) = some u) g
    refine ⟨hl, C, fun i hi => ⟨(hC i hi).1, (hC i hi).2.1⟩, fun hpos => ?_⟩
    obtain ⟨h1, _, h3⟩ := hC 0 hpos
    have hne : ∃ u, (C 0)[0]? = some u := ⟨_, List.getElem?_eq_getElem (by omega)⟩
    obtain ⟨u0, hu0⟩ := hne
    have hc0 := h3 0 u0 hu0
    rw [Nat.zero_mul, Addr.add_zero', Addr.add_zero'] at hc0
    obtain ⟨b, o, sp⟩ := a
    have hsp : sp = none := by
      cases sp with
      | none => rfl
      | some s => simp [World.cell?] at hc0; split at hc0 <;> simp at hc0
    subst hsp
    refine ⟨b, o, rfl, cell_below hc0, fun i hi j u hu => ?_⟩
    have := (hC i hi).2.2 j u hu
    rwa [add_off, add_off] at this

theorem u8_range {x : Int} (h : (Lit.int .u8 x).wf = true) : ∃ k : Nat, x = (k : Int) ∧ k < 256 := by
  have hb : IntKind.u8.min ≤ x ∧ x ≤ IntKind.u8.max := by simpa [Lit.wf] using h
  have e1 : IntKind.u8.min = 0 := rfl
  have e2 : IntKind.u8.max = 255 := rfl
  exact ⟨x.toNat, by omega, by omega⟩


set_option maxHeartbeats 1000000 in
theorem law24_long (m : Int) (A : Option Addr) (len cap : Nat) (w : World) (h : 80 < len) :
    Calls Try.prog 3 #[.int .i64 m, .slice A len cap] w fun e w' => e = .returned (.bool true) ∧ Keeps (fun _ => False) w w' := by
  have h' : (80 : Int) < len := by omega
  go_enter Try.func3, Try.ntmps3
  go_wp2_with fail
  refine (law24_alive _).mono ?_
  rintro e w4 ⟨rfl, k4⟩
  go_wp2
  go_ret
  exact ⟨rfl, k4⟩

set_option maxHeartbeats 1000000 in
theorem law24_bad (m : Int) (A : Option Addr) (len cap : Nat) (w : World) (h : ¬ 80 < len) (hr : m < 0 ∨ 4 < m) :
    Calls Try.prog 3 #[.int .i64 m, .slice A len cap] w fun e w' => e = .returned (.bool true) ∧ Keeps (fun _ => False) w w' := by
  have hl1 : ¬ (80 < (len : Int)) := by omega
  go_enter Try.func3, Try.ntmps3
  go_wp2_with fail
  refine (b_new_bad _ _ hr).mono ?_
  rintro e w1 ⟨rfl, rfl⟩
  go_wp2_with fail
  refine (r24_new_bad _ _ hr).mono ?_
  rintro e w2 ⟨rfl, rfl⟩
  go_wp2_with fail
  refine (law24_alive _).mono ?_
  rintro e w4 ⟨rfl, k4⟩
  go_wp2
  go_ret
  exact ⟨rfl, k4⟩

theorem law24 (m : Int) (A : Option Addr) (len cap : Nat) (fs : Nat → Bool) (ks ps : Nat → Int) (w : World) (hcap : len ≤ cap) (hA : IsStepsB w A len fs ks ps) :
    Calls Try.prog 3 #[.int .i64 m, .slice A len cap] w fun e w' => e = .returned (.bool true) ∧ Below w.heap.size w w' := by
  have key : Calls Try.prog 3 #[.int .i64 m, .slice A len cap] w fun e w' => e = .returned (.bool true) ∧ Keeps (fun _ => False) w w' := by
    by_cases hl : 80 < len
    · exact law24_long m A len cap w hl
    · by_cases hr : m < 0 ∨ 4 < m
      · exact law24_bad m A len cap w hl hr
      · obtain ⟨n, rfl⟩ := Int.eq_ofNat_of_zero_le (show 0 ≤ m by omega)
        exact law24_walk n (by omega) A len cap fs ks ps w (by omega) hcap hA
  exact key.mono fun e w' ⟨h1, h2⟩ => ⟨h1, h2.toBelow (fun _ h => h.elim) (Nat.le_refl _)⟩

theorem list_three {α : Type} {l : List α} (h : l.length = 3) : ∃ a b c, l = [a, b, c] :=
  match l, h with
  | [a, b, c], _ => ⟨a, b, c, rfl⟩

theorem open_stepsB {H : Type} {enc : TypeId × Value → H} {w : World} {A : Option Addr} {len cap : Nat} {d : DataW H} {p : List MemPlace}
    (h : DataW.Trod enc Try.prog w 0 (fun _ => true) true 22 (.slice A len cap) d p) : len ≤ cap ∧ ∃ fs ks ps, IsStepsB w A len fs ks ps := by
  obtain ⟨hle, C, hC, hA⟩ := open_flat (e := 32) (sz := 3) (fun cs => ∃ (x : Bool) (y z : Int), cs = [.bool x, .int .i64 y, .int .i64 z]) Try.underlying22 (by kernel_rfl) (by omega) (fun fuel cs x hx => by
    obtain ⟨ys, m, _, _, hlen, hl, hf⟩ := DataW.trod_struct Try.underlying32 hx
    have c4 : Try.prog.cellsOf 4 = 1 := by kernel_rfl
    have c3 : Try.prog.cellsOf 3 = 1 := by kernel_rfl
    have c32 : Try.prog.cellsOf 32 = 3 := by kernel_rfl
    rw [c32] at hlen
    have f0 : DataW.trod enc Try.prog w 0 (fun _ => true) true m 4 ((cs.drop 0).take (Try.prog.cellsOf 4)) = ys[0]? := hf 0 _ rfl
    have f1 : DataW.trod enc Try.prog w 0 (fun _ => true) true m 3 ((cs.drop 1).take (Try.prog.cellsOf 3)) = ys[1]? := hf 1 _ rfl
    have f2 : DataW.trod enc Try.prog w 0 (fun _ => true) true m 3 ((cs.drop 2).take (Try.prog.cellsOf 3)) = ys[2]? := hf 2 _ rfl
    rw [c4] at f0
    rw [c3] at f1 f2
    obtain ⟨y0, y1, y2, rfl⟩ := list_three hl
    obtain ⟨v0, v1, v2, rfl⟩ := list_three hlen
    simp at f0 f1 f2
    obtain ⟨x0, e0, _⟩ := DataW.trod_bool Try.underlying4 f0
    obtain ⟨x1, e1, _, w1⟩ := DataW.trod_int Try.underlying3 f1
    obtain ⟨x2, e2, _, w2⟩ := DataW.trod_int Try.underlying3 f2
    simp at e0 e1 e2
    exact ⟨x0, x1, x2, by rw [e0, e1, e2]⟩) h
  have g : ∀ i, i < len → ∃ q : Bool × Int × Int, C i = [.bool q.1, .int .i64 q.2.1, .int .i64 q.2.2] := fun i hi => by
    obtain ⟨_, x, y, z, h3⟩ := hC i hi
    exact ⟨(x, y, z), h3⟩
  obtain ⟨q, hq⟩ := choose_lt (p := fun i (q : Bool × Int × Int) => C i = [.bool q.1, .int .i64 q.2.1, .int .i64 q.2.2]) g
  refine ⟨hle, fun i => (q i).1, fun i => (q i).2.1, fun i => (q i).2.2, fun hpos => ?_⟩
  obtain ⟨b, o, rfl, hb, hcell⟩ := hA hpos
  refine ⟨b, o, rfl, hb, fun i hi => ?_⟩
  have h3 := hq i hi
  exact ⟨hcell i hi 0 _ (by rw [h3]; rfl), hcell i hi 1 _ (by rw [h3]; rfl), hcell i hi 2 _ (by rw [h3]; rfl)⟩

set_option maxRecDepth 100000 in
theorem bucketPlays_lifted (os : Os) (started : os.Started) (H : Type) (enc : TypeId × Value → H) :
    ReturnsInHanded {} Try.checked os 3 .any (Rows.bucketPlaysSpec.pre6 enc Try.prog Try.f3 Rows.bucketPlaysRow.domain false) (Rows.bucketPlaysSpec.post enc Try.prog Try.f3 false true false false) := by
  refine returnsInHanded_of_change_sized (C := Try.checked) Try.own2 started (by kernel_rfl) Try.func3
    (ChangeSpec.witness6 (enc := enc) (C := Try.checked) false ⟨#[], #[.int .i64 0, .slice none 0 0], []⟩ 8 (by kernel_rfl) (by kernel_rfl) (by kernel_rfl) (by kernel_rfl)) ?_
  intro W base args ds gs before hval0 hW hcnd hsz0 _
  have hval : ∀ (j : Nat) t v, Try.f3.params[j]? = some t → args[j]? = some v → Value.okWide Try.prog W .any base t v := hval0
  have hW' := hW
  obtain ⟨p, q, hA0, hV, rfl, hfz, hnd⟩ := hW
  have hA : DataW.TrodAll enc Try.prog W 0 (fun _ => true) true Try.f3.params.toList args.toList ds p := hA0
  rw [Try.params3] at hA hval
  obtain ⟨v0, vs0, d0, ds0, p0, q0, hargs, rfl, rfl, h0, r0⟩ := trodAll_cons hA
  obtain ⟨v1, vs1, d1, ds1, p1, q1, rfl, rfl, rfl, h1, r1⟩ := trodAll_cons r0
  obtain ⟨rfl, rfl, rfl⟩ := trodAll_nil r1
  obtain rfl : args = #[v0, v1] := by cases args; simp_all
  obtain ⟨rfl, rfl⟩ := trodVars_none hV
  obtain ⟨a0, rfl, rfl, rfl, w0⟩ := open_int Try.underlying3 (hval 0 3 v0 rfl rfl) h0
  obtain ⟨a1, len1, cap1, rfl⟩ := okWide_slice Try.underlying22 (hval 1 22 v1 rfl rfl)
  have k1 := h1
  have lt1 : ∀ x ∈ p1, x.block < W.heap.size := by obtain ⟨m, hm⟩ := k1; exact DataW.trod_lt m _ _ _ hm
  obtain ⟨hc1, ff, kk, pp, s1⟩ := open_stepsB h1
  clear hA0 hval0 hsz0
  refine (law24 a0 a1 len1 cap1 ff kk pp W hc1 s1).mono fun e W' ⟨he, bel⟩ => ?_
  subst he
  exact ⟨_, rfl, _, _, _, [], _, [], hW', trodAll_mk1 (shut_bool Try.underlying4 _), trodAll_cons_mk (shut_int Try.underlying3 w0) (trodAll_cons_mk (Below.trod Try.laidOut2 (by kernel_rfl) (of_decide_eq_true (by kernel_rfl)) k1 bel lt1) trodAll_mk0), rfl, bel.frame _, fun h => by cases h⟩

theorem bucketPlays_holds : Rows.BucketPlaysSaid :=
  OpenClaim.holds_of_wide 3 Try.f3 rfl rfl rfl rfl rfl rfl rfl ⟨rfl, rfl, rfl, rfl, rfl⟩ rfl rfl rfl rfl rfl (by kernel_rfl) Try.func3 (by kernel_rfl)
    (of_decide_eq_true (by kernel_rfl)) (by unfold Func.isWrapper; first | (rw [if_pos (by decide +kernel)]; kernel_rfl) | (rw [if_neg (by decide +kernel)]; exact ⟨rfl, rfl⟩))
    (fun os started H enc _ => bucketPlays_lifted os started H enc)
#print axioms bucketPlays_holds
end Go.Proofs.Ytfnlmnpfflnaiaa
