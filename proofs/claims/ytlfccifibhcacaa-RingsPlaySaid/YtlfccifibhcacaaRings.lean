/- RingsPlay: for every room and every list of steps, a ring of any room answers every call, in every order, as the document's list does, and the law returns true, leaving its arguments as they were. No condition. -/
import Derived.Test.YtlfccifibhcacaaRows
import Derived.Test.YtlfccifibhcacaaRp
import Derived.WalkKit
import Derived.ProofKit
import Derived.OpenShut
import Derived.ShutString
import Derived.ChangeOld
import Derived.Below
import Derived.SizedLaws
import Derived.Deep.SlicePairs
namespace Go.Proofs.Ytlfccifibhcacaa
open Go.ChangeShapes Go.WideShapes Go.ChangeAt Go.RowKit Go.Deep
set_option linter.unusedVariables false
set_option linter.unusedSimpArgs false

set_option maxHeartbeats 1000000 in
theorem law7_long (room : Int) (A : Option Addr) (len cap : Nat) (w : World) (h : 100 < len) :
    Calls Try.prog 3 #[.int .i64 room, .slice A len cap] w fun e w' => e = .returned (.bool true) ∧ Keeps (fun _ => False) w w' := by
  have h' : (100 : Int) < len := by omega
  go_enter Try.func3, Try.ntmps3
  go_wp2_with fail
  refine (law7_alive _).mono ?_
  rintro e w4 ⟨rfl, k4⟩
  go_wp2
  go_ret
  exact ⟨rfl, k4⟩

set_option maxHeartbeats 1000000 in
theorem law7_bad (room : Int) (A : Option Addr) (len cap : Nat) (w : World) (h : ¬ 100 < len) (hr : room < 0 ∨ 1024 < room) :
    Calls Try.prog 3 #[.int .i64 room, .slice A len cap] w fun e w' => e = .returned (.bool true) ∧ Keeps (fun _ => False) w w' := by
  have hl1 : ¬ (100 < (len : Int)) := by omega
  go_enter Try.func3, Try.ntmps3
  go_wp2_with fail
  refine (ring_new_bad _ _ hr).mono ?_
  rintro e w1 ⟨rfl, rfl⟩
  go_wp2_with fail
  refine (ref7_new_bad _ _ hr).mono ?_
  rintro e w2 ⟨rfl, k2⟩
  go_wp2_with fail
  refine (law7_alive _).mono ?_
  rintro e w4 ⟨rfl, k4⟩
  go_wp2
  go_ret
  exact ⟨rfl, (k2.alloc _).trans' k4⟩

/-- A slice of steps, each a u8 and an int, that came in. -/
def IsSteps (w : World) (A : Option Addr) (len : Nat) (ds : Nat → Nat) (xs : Nat → Int) : Prop :=
  0 < len → ∃ b o, A = some ⟨b, o, none⟩ ∧ b < w.heap.size ∧ ∀ i, i < len → w.cell? ⟨b, o + i * 2, none⟩ = some (.int .u8 (ds i)) ∧ w.cell? ⟨b, o + i * 2 + 1, none⟩ = some (.int .i64 (xs i)) ∧ ds i < 256

theorem law7 (room : Int) (A : Option Addr) (len cap : Nat) (ds : Nat → Nat) (xs : Nat → Int) (w : World) (hcap : len ≤ cap) (hA : IsSteps w A len ds xs) :
    Calls Try.prog 3 #[.int .i64 room, .slice A len cap] w fun e w' => e = .returned (.bool true) ∧ Below w.heap.size w w' := by
  have key : Calls Try.prog 3 #[.int .i64 room, .slice A len cap] w fun e w' => e = .returned (.bool true) ∧ Keeps (fun _ => False) w w' := by
    by_cases hl : 100 < len
    · exact law7_long room A len cap w hl
    · by_cases hr : room < 0 ∨ 1024 < room
      · exact law7_bad room A len cap w hl hr
      · obtain ⟨n, rfl⟩ := Int.eq_ofNat_of_zero_le (show 0 ≤ room by omega)
        exact law7_walk n (by omega) A len cap ds xs w (by omega) hcap hA
  exact key.mono fun e w' ⟨h1, h2⟩ => ⟨h1, h2.toBelow (fun _ h => h.elim) (Nat.le_refl _)⟩

theorem Try.own : ownKnob Try.prog.godebug = none := by kernel_rfl
theorem Try.laidOut : laidOutB Try.prog = true := by kernel_rfl

/-- A slice of steps among the arguments, opened. -/
theorem open_steps {H : Type} {enc : TypeId × Value → H} {w : World} {t e : TypeId} {f0 f1 : Field} {A : Option Addr} {len cap : Nat} {d : DataW H} {p : List MemPlace}
    (ht : Try.prog.underlying t = some (.slice e)) (he : Try.prog.underlying e = some (.struct #[f0, f1])) (ce : Try.prog.cellsOf e = 2) (o0 : f0.offset = 0) (o1 : f1.offset = 1) (c0 : Try.prog.cellsOf f0.type = 1) (c1 : Try.prog.cellsOf f1.type = 1)
    (u0 : Try.prog.underlying f0.type = some (.int .u8)) (u1 : Try.prog.underlying f1.type = some (.int .i64))
    (h : DataW.Trod enc Try.prog w 0 (fun _ => true) true t (.slice A len cap) d p) : len ≤ cap ∧ ∃ ds xs, IsSteps w A len ds xs := by
  obtain ⟨fuel, hf⟩ := h
  rcases open_slice_pairs ht he ce o0 o1 c0 c1 hf with ⟨hcs, _⟩ | ⟨a, l, c, m, n, V0, V1, D0, D1, P0, P1, hcs, _, hl, hm, hmm, _, hx⟩
  · simp [Value.cells] at hcs
    obtain ⟨rfl, rfl, rfl⟩ := hcs
    exact ⟨Nat.le_refl _, fun _ => 0, fun _ => 0, fun h => absurd h (by omega)⟩
  · simp [Value.cells] at hcs
    obtain ⟨rfl, rfl, rfl⟩ := hcs
    simp only [if_true] at hmm
    subst hmm
    have g : ∀ i, i < len → ∃ q : Nat × Int, w.cell? (a.add (i * 2)) = some (.int .u8 q.1) ∧ w.cell? (a.add (i * 2 + 1)) = some (.int .i64 q.2) ∧ q.1 < 256 := by
      intro i hi
      obtain ⟨h0, h1, h2, h3⟩ := hx i (by omega)
      obtain ⟨x0, e0, _, w0⟩ := DataW.trod_int u0 h2
      obtain ⟨x1, e1, _, w1⟩ := DataW.trod_int u1 h3
      simp at e0 e1
      have b0 : 0 ≤ x0 ∧ x0 < 256 := by
        have hb : IntKind.u8.min ≤ x0 ∧ x0 ≤ IntKind.u8.max := by simpa [Lit.wf] using w0
        have e1 : IntKind.u8.min = 0 := rfl
        have e2 : IntKind.u8.max = 255 := rfl
        omega
      obtain ⟨k, rfl⟩ := Int.eq_ofNat_of_zero_le b0.1
      exact ⟨(k, x1), by rw [h0, e0], by rw [h1, e1], by have := b0.2; simp; omega⟩
    obtain ⟨q, hq⟩ := choose_lt (p := fun i (q : Nat × Int) => w.cell? (a.add (i * 2)) = some (.int .u8 q.1) ∧ w.cell? (a.add (i * 2 + 1)) = some (.int .i64 q.2) ∧ q.1 < 256) g
    refine ⟨hl, fun i => (q i).1, fun i => (q i).2, fun hpos => ?_⟩
    have hc0 := (hq 0 hpos).1
    rw [Nat.zero_mul, Addr.add_zero'] at hc0
    obtain ⟨b, o, sp⟩ := a
    have hsp : sp = none := by
      cases sp with
      | none => rfl
      | some s => simp [World.cell?] at hc0; split at hc0 <;> simp at hc0
    subst hsp
    refine ⟨b, o, rfl, cell_lt hc0, fun i hi => ?_⟩
    obtain ⟨h0, h1, h2⟩ := hq i hi
    rw [add_off] at h0 h1
    exact ⟨h0, by rw [Nat.add_assoc]; exact h1, h2⟩

set_option maxRecDepth 100000 in
theorem ringsPlay_lifted (os : Os) (started : os.Started) (H : Type) (enc : TypeId × Value → H) :
    ReturnsInHanded {} Try.checked os 3 .any (Rows.ringsPlaySpec.pre6 enc Try.prog Try.f3 Rows.ringsPlayRow.domain false) (Rows.ringsPlaySpec.post enc Try.prog Try.f3 false true false false) := by
  refine returnsInHanded_of_change_sized (C := Try.checked) Try.own started (by kernel_rfl) Try.func3
    (ChangeSpec.witness6 (enc := enc) (C := Try.checked) false ⟨#[], #[.int .i64 0, .slice none 0 0], []⟩ 8 (by kernel_rfl) (by kernel_rfl) (by kernel_rfl) (by kernel_rfl)) ?_
  intro W base args ds gs before hval0 hW hcnd hsz0 _
  have hval : ∀ (j : Nat) t v, Try.f3.params[j]? = some t → args[j]? = some v → Value.okWide Try.prog W .any base t v := hval0
  have hW' := hW
  obtain ⟨p, q, hA0, hV, rfl, hfz, hnd⟩ := hW
  have hA : DataW.TrodAll enc Try.prog W 0 (fun _ => true) true Try.f3.params.toList args.toList ds p := hA0
  rw [Try.params3] at hA hval
  obtain ⟨v0, vs0, d0, ds0, p0, q0, hargs, rfl, rfl, h0, r0⟩ := trodAll_cons hA
  obtain ⟨v1, vs1, d1, ds1, p1, q1, rfl, rfl, rfl, h1, r1⟩ := trodAll_cons r0
  obtain ⟨rfl, rfl, rfl⟩ := trodAll_nil r1
  obtain rfl : args = #[v0, v1] := by cases args; simp_all
  obtain ⟨rfl, rfl⟩ := trodVars_none hV
  obtain ⟨a0, rfl, rfl, rfl, w0⟩ := open_int Try.underlying3 (hval 0 3 v0 rfl rfl) h0
  obtain ⟨a1, len1, cap1, rfl⟩ := okWide_slice Try.underlying22 (hval 1 22 v1 rfl rfl)
  have k1 := h1
  have lt1 : ∀ x ∈ p1, x.block < W.heap.size := by obtain ⟨m, hm⟩ := k1; exact DataW.trod_lt m _ _ _ hm
  obtain ⟨hc1, dd, xx, s1⟩ := open_steps Try.underlying22 Try.underlying34 (by kernel_rfl) rfl rfl (by kernel_rfl) (by kernel_rfl) Try.underlying5 Try.underlying3 h1
  clear hA0 hval0 hsz0
  refine (law7 a0 a1 len1 cap1 dd xx W hc1 s1).mono fun e W' ⟨he, bel⟩ => ?_
  subst he
  exact ⟨_, rfl, _, _, _, [], _, [], hW', trodAll_mk1 (shut_bool Try.underlying4 _), trodAll_cons_mk (shut_int Try.underlying3 w0) (trodAll_cons_mk (Below.trod Try.laidOut (by kernel_rfl) (of_decide_eq_true (by kernel_rfl)) k1 bel lt1) trodAll_mk0), rfl, bel.frame _, fun h => by cases h⟩

theorem ringsPlay_holds : Rows.RingsPlaySaid :=
  OpenClaim.holds_of_wide 3 Try.f3 rfl rfl rfl rfl rfl rfl rfl ⟨rfl, rfl, rfl, rfl, rfl⟩ rfl rfl rfl rfl rfl (by kernel_rfl) Try.func3 (by kernel_rfl)
    (of_decide_eq_true (by kernel_rfl)) (by unfold Func.isWrapper; first | (rw [if_pos (by decide +kernel)]; kernel_rfl) | (rw [if_neg (by decide +kernel)]; exact ⟨rfl, rfl⟩))
    (fun os started H enc _ => ringsPlay_lifted os started H enc)
#print axioms ringsPlay_holds
end Go.Proofs.Ytlfccifibhcacaa
