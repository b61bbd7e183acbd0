/- ArenaPlays: for every table of any room and any last generation and every list of steps, the table answers every call as the document's does, and the law returns true, leaving its arguments as they were. No condition. -/
import Derived.Test.YtlfccifibhcacaaAw
import Derived.Test.YtlfccifibhcacaaRo
namespace Go.Proofs.Ytlfccifibhcacaa
open Go.ChangeShapes Go.WideShapes Go.ChangeAt Go.RowKit Go.Deep
set_option linter.unusedVariables false
set_option linter.unusedSimpArgs false

set_option maxHeartbeats 1000000 in
theorem law2_wide (r l : Int) (A : Option Addr) (len cap : Nat) (w : World) (h0 : 30 < r) (h1 : r ≤ 4096) :
    Calls Try.prog 4 #[.int .i64 r, .int .i64 l, .slice A len cap] w fun e w' => e = .returned (.bool true) ∧ Keeps (fun _ => False) w w' := by
  go_enter Try.func4, Try.ntmps4
  go_wp2_with fail
  refine (law2_alive _).mono ?_
  rintro e w4 ⟨rfl, k4⟩
  go_wp2
  go_ret
  exact ⟨rfl, k4⟩

set_option maxHeartbeats 1000000 in
theorem law2_long (r l : Int) (A : Option Addr) (len cap : Nat) (w : World) (h0 : ¬ (30 < r ∧ r ≤ 4096)) (h : 100 < len) :
    Calls Try.prog 4 #[.int .i64 r, .int .i64 l, .slice A len cap] w fun e w' => e = .returned (.bool true) ∧ Keeps (fun _ => False) w w' := by
  have h' : (100 : Int) < len := by omega
  by_cases h1 : 30 < r
  · have h2 : ¬ r ≤ 4096 := fun x => h0 ⟨h1, x⟩
    clear h0
    go_enter Try.func4, Try.ntmps4
    go_wp2_with fail
    refine (law2_alive _).mono ?_
    rintro e w4 ⟨rfl, k4⟩
    go_wp2
    go_ret
    exact ⟨rfl, k4⟩
  · clear h0
    go_enter Try.func4, Try.ntmps4
    go_wp2_with fail
    refine (law2_alive _).mono ?_
    rintro e w4 ⟨rfl, k4⟩
    go_wp2
    go_ret
    exact ⟨rfl, k4⟩

set_option maxHeartbeats 1000000 in
theorem law2_bad (r l : Int) (A : Option Addr) (len cap : Nat) (w : World) (h0 : ¬ (30 < r ∧ r ≤ 4096)) (h : ¬ 100 < len) (hr : r < 1 ∨ 4096 < r ∨ l < 1 ∨ 65535 < l) :
    Calls Try.prog 4 #[.int .i64 r, .int .i64 l, .slice A len cap] w fun e w' => e = .returned (.bool true) ∧ Keeps (fun _ => False) w w' := by
  have hl1 : ¬ (100 < (len : Int)) := by omega
  have HR := Lib.hid hr
  clear hr
  by_cases h1 : 30 < r
  · have h2 : ¬ r ≤ 4096 := fun x => h0 ⟨h1, x⟩
    clear h0
    go_enter Try.func4, Try.ntmps4
    go_wp2_with fail
    refine (ar_new_bad _ _ _ HR.out).mono ?_
    rintro e w1 ⟨rfl, rfl⟩
    go_wp2_with fail
    refine (rt_new_bad _ _ _ HR.out).mono ?_
    rintro e w2 ⟨rfl, k2⟩
    go_wp2_with fail
    refine (law2_alive _).mono ?_
    rintro e w4 ⟨rfl, k4⟩
    go_wp2
    go_ret
    exact ⟨rfl, (k2.alloc _).trans' k4⟩
  · clear h0
    go_enter Try.func4, Try.ntmps4
    go_wp2_with fail
    refine (ar_new_bad _ _ _ HR.out).mono ?_
    rintro e w1 ⟨rfl, rfl⟩
    go_wp2_with fail
    refine (rt_new_bad _ _ _ HR.out).mono ?_
    rintro e w2 ⟨rfl, k2⟩
    go_wp2_with fail
    refine (law2_alive _).mono ?_
    rintro e w4 ⟨rfl, k4⟩
    go_wp2
    go_ret
    exact ⟨rfl, (k2.alloc _).trans' k4⟩

theorem law2 (r l : Int) (A : Option Addr) (len cap : Nat) (ds : Nat → Nat) (ps xs : Nat → Int) (w : World) (hcap : len ≤ cap) (hA : IsStepsA w A len ds ps xs) :
    Calls Try.prog 4 #[.int .i64 r, .int .i64 l, .slice A len cap] w fun e w' => e = .returned (.bool true) ∧ Below w.heap.size w w' := by
  have key : Calls Try.prog 4 #[.int .i64 r, .int .i64 l, .slice A len cap] w fun e w' => e = .returned (.bool true) ∧ Keeps (fun _ => False) w w' := by
    by_cases h0 : 30 < r ∧ r ≤ 4096
    · exact law2_wide r l A len cap w h0.1 h0.2
    · by_cases hl : 100 < len
      · exact law2_long r l A len cap w h0 hl
      · by_cases hr : r < 1 ∨ 4096 < r ∨ l < 1 ∨ 65535 < l
        · exact law2_bad r l A len cap w h0 hl hr
        · obtain ⟨n, rfl⟩ := Int.eq_ofNat_of_zero_le (show 0 ≤ r by omega)
          exact law2_walk n l (by omega) (by omega) (by omega) (by omega) A len cap ds ps xs w (by omega) hcap hA
  exact key.mono fun e w' ⟨h1, h2⟩ => ⟨h1, h2.toBelow (fun _ h => h.elim) (Nat.le_refl _)⟩

theorem list_three {α : Type} {l : List α} (h : l.length = 3) : ∃ a b c, l = [a, b, c] :=
  match l, h with
  | [a, b, c], _ => ⟨a, b, c, rfl⟩

theorem open_stepsA {H : Type} {enc : TypeId × Value → H} {w : World} {A : Option Addr} {len cap : Nat} {d : DataW H} {p : List MemPlace}
    (h : DataW.Trod enc Try.prog w 0 (fun _ => true) true 48 (.slice A len cap) d p) : len ≤ cap ∧ ∃ ds ps xs, IsStepsA w A len ds ps xs := by
  obtain ⟨hle, C, hC, hA⟩ := open_flat (e := 58) (sz := 3) (fun cs => ∃ (x : Nat) (y z : Int), x < 256 ∧ cs = [.int .u8 x, .int .i64 y, .int .i64 z]) Try.underlying48 (by kernel_rfl) (by omega) (fun fuel cs x hx => by
    obtain ⟨ys, m, _, _, hlen, hl, hf⟩ := DataW.trod_struct Try.underlying58 hx
    have c5 : Try.prog.cellsOf 5 = 1 := by kernel_rfl
    have c3 : Try.prog.cellsOf 3 = 1 := by kernel_rfl
    have c58 : Try.prog.cellsOf 58 = 3 := by kernel_rfl
    rw [c58] at hlen
    have f0 : DataW.trod enc Try.prog w 0 (fun _ => true) true m 5 ((cs.drop 0).take (Try.prog.cellsOf 5)) = ys[0]? := hf 0 _ rfl
    have f1 : DataW.trod enc Try.prog w 0 (fun _ => true) true m 3 ((cs.drop 1).take (Try.prog.cellsOf 3)) = ys[1]? := hf 1 _ rfl
    have f2 : DataW.trod enc Try.prog w 0 (fun _ => true) true m 3 ((cs.drop 2).take (Try.prog.cellsOf 3)) = ys[2]? := hf 2 _ rfl
    rw [c5] at f0
    rw [c3] at f1 f2
    obtain ⟨y0, y1, y2, rfl⟩ := list_three hl
    obtain ⟨v0, v1, v2, rfl⟩ := list_three hlen
    simp at f0 f1 f2
    obtain ⟨x0, e0, _, w0⟩ := DataW.trod_int Try.underlying5 f0
    obtain ⟨x1, e1, _, w1⟩ := DataW.trod_int Try.underlying3 f1
    obtain ⟨x2, e2, _, w2⟩ := DataW.trod_int Try.underlying3 f2
    simp at e0 e1 e2
    obtain ⟨a, rfl, ha⟩ := u8_range w0
    exact ⟨a, x1, x2, ha, by rw [e0, e1, e2]⟩) h
  have g : ∀ i, i < len → ∃ q : Nat × Int × Int, q.1 < 256 ∧ C i = [.int .u8 q.1, .int .i64 q.2.1, .int .i64 q.2.2] := fun i hi => by
    obtain ⟨_, x, y, z, h1, h3⟩ := hC i hi
    exact ⟨(x, y, z), h1, h3⟩
  obtain ⟨q, hq⟩ := choose_lt (p := fun i (q : Nat × Int × Int) => q.1 < 256 ∧ C i = [.int .u8 q.1, .int .i64 q.2.1, .int .i64 q.2.2]) g
  refine ⟨hle, fun i => (q i).1, fun i => (q i).2.1, fun i => (q i).2.2, fun hpos => ?_⟩
  obtain ⟨b, o, rfl, hb, hcell⟩ := hA hpos
  refine ⟨b, o, rfl, hb, fun i hi => ?_⟩
  obtain ⟨h1, h3⟩ := hq i hi
  exact ⟨hcell i hi 0 _ (by rw [h3]; rfl), hcell i hi 1 _ (by rw [h3]; rfl), hcell i hi 2 _ (by rw [h3]; rfl), h1⟩

set_option maxRecDepth 100000 in
theorem arenaPlays_lifted (os : Os) (started : os.Started) (H : Type) (enc : TypeId × Value → H) :
    ReturnsInHanded {} Try.checked os 4 .any (Rows.arenaPlaysSpec.pre6 enc Try.prog Try.f4 Rows.arenaPlaysRow.domain false) (Rows.arenaPlaysSpec.post enc Try.prog Try.f4 false true false false) := by
  refine returnsInHanded_of_change_sized (C := Try.checked) Try.own' started (by kernel_rfl) Try.func4
    (ChangeSpec.witness6 (enc := enc) (C := Try.checked) false ⟨#[], #[.int .i64 0, .int .i64 0, .slice none 0 0], []⟩ 8 (by kernel_rfl) (by kernel_rfl) (by kernel_rfl) (by kernel_rfl)) ?_
  intro W base args ds gs before hval0 hW hcnd hsz0 _
  have hval : ∀ (j : Nat) t v, Try.f4.params[j]? = some t → args[j]? = some v → Value.okWide Try.prog W .any base t v := hval0
  have hW' := hW
  obtain ⟨p, q, hA0, hV, rfl, hfz, hnd⟩ := hW
  have hA : DataW.TrodAll enc Try.prog W 0 (fun _ => true) true Try.f4.params.toList args.toList ds p := hA0
  rw [Try.params4] at hA hval
  obtain ⟨v0, vs0, d0, ds0, p0, q0, hargs, rfl, rfl, h0, r0⟩ := trodAll_cons hA
  obtain ⟨v1, vs1, d1, ds1, p1, q1, rfl, rfl, rfl, h1, r1⟩ := trodAll_cons r0
  obtain ⟨v2, vs2, d2, ds2, p2, q2, rfl, rfl, rfl, h2, r2⟩ := trodAll_cons r1
  obtain ⟨rfl, rfl, rfl⟩ := trodAll_nil r2
  obtain rfl : args = #[v0, v1, v2] := by cases args; simp_all
  obtain ⟨rfl, rfl⟩ := trodVars_none hV
  obtain ⟨a0, rfl, rfl, rfl, w0⟩ := open_int Try.underlying3 (hval 0 3 v0 rfl rfl) h0
  obtain ⟨a1, rfl, rfl, rfl, w1⟩ := open_int Try.underlying3 (hval 1 3 v1 rfl rfl) h1
  obtain ⟨a2, len2, cap2, rfl⟩ := okWide_slice Try.underlying48 (hval 2 48 v2 rfl rfl)
  have k2 := h2
  have lt2 : ∀ x ∈ p2, x.block < W.heap.size := by obtain ⟨m, hm⟩ := k2; exact DataW.trod_lt m _ _ _ hm
  obtain ⟨hc2, dd, pp, xx, s2⟩ := open_stepsA h2
  clear hA0 hval0 hsz0
  refine (law2 a0 a1 a2 len2 cap2 dd pp xx W hc2 s2).mono fun e W' ⟨he, bel⟩ => ?_
  subst he
  exact ⟨_, rfl, _, _, _, [], _, [], hW', trodAll_mk1 (shut_bool Try.underlying4 _), trodAll_cons_mk (shut_int Try.underlying3 w0) (trodAll_cons_mk (shut_int Try.underlying3 w1) (trodAll_cons_mk (Below.trod Try.laidOut' (by kernel_rfl) (of_decide_eq_true (by kernel_rfl)) k2 bel lt2) trodAll_mk0)), rfl, bel.frame _, fun h => by cases h⟩

theorem arenaPlays_holds : Rows.ArenaPlaysSaid :=
  OpenClaim.holds_of_wide 4 Try.f4 rfl rfl rfl rfl rfl rfl rfl ⟨rfl, rfl, rfl, rfl, rfl⟩ rfl rfl rfl rfl rfl (by kernel_rfl) Try.func4 (by kernel_rfl)
    (of_decide_eq_true (by kernel_rfl)) (by unfold Func.isWrapper; first | (rw [if_pos (by decide +kernel)]; kernel_rfl) | (rw [if_neg (by decide +kernel)]; exact ⟨rfl, rfl⟩))
    (fun os started H enc _ => arenaPlays_lifted os started H enc)
#print axioms arenaPlays_holds
end Go.Proofs.Ytlfccifibhcacaa
