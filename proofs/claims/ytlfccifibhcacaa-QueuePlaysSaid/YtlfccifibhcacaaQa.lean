/- The alive of layer 3 (queue): two queues, step by step. -/
import Derived.Test.YtlfccifibhcacaaQh
namespace Go.Proofs.Ytlfccifibhcacaa
open Go.RowKit
set_option linter.unusedVariables false
set_option linter.unusedSimpArgs false

theorem ret_eq {e : Ending} {k : IntKind} {a b : Int} (h : e = .returned (.int k a)) (hab : a = b) : e = .returned (.int k b) := by rw [h, hab]
theorem ret_eq2 {e : Ending} {a b c d : Int} (h : e = .returned (.tuple #[.int .i64 a, .int .i64 c])) (hab : a = b) (hcd : c = d) : e = .returned (.tuple #[.int .i64 b, .int .i64 d]) := by rw [h, hab, hcd]

set_option maxHeartbeats 2000000 in
set_option maxRecDepth 100000 in
theorem law3_alive (w : World) : Calls Try.prog 31 #[] w fun e w' => e = .returned (.bool true) ∧ Keeps (fun _ => False) w w' := by
  go_enter Try.func31, Try.ntmps31
  go_wp2_with fail
  refine (h3_new _ _ 2 3 _ (by omega) (by omega) (by omega) (by rfl) (by rfl)).mono ?_
  rintro e w1 ⟨g, N, L, rfl, hg, hN, hL, h1, k1⟩
  go_wp2_with fail
  refine (h3_push _ _ _ _ _ _ _ _ _ h1).mono ?_
  rintro e w2 ⟨he, h2, k2⟩
  obtain rfl := ret_eq he (show _ = (0 : Int) from by decide)
  replace h2 : Holds3 w2 g N L 3 2 [[5], []] := h2
  go_wp2_with fail
  refine (h3_push _ _ _ _ _ _ _ _ _ h2).mono ?_
  rintro e w3 ⟨he, h3, k3⟩
  obtain rfl := ret_eq he (show _ = (0 : Int) from by decide)
  replace h3 : Holds3 w3 g N L 3 2 [[5, 6], []] := h3
  go_wp2_with fail
  refine (h3_push _ _ _ _ _ _ _ _ _ h3).mono ?_
  rintro e w4 ⟨he, h4, k4⟩
  obtain rfl := ret_eq he (show _ = (0 : Int) from by decide)
  replace h4 : Holds3 w4 g N L 3 2 [[5, 6], [7]] := h4
  go_wp2_with fail
  refine (h3_push _ _ _ _ _ _ _ _ _ h4).mono ?_
  rintro e w5 ⟨he, h5, k5⟩
  obtain rfl := ret_eq he (show _ = (10 : Int) from by decide)
  replace h5 : Holds3 w5 g N L 3 2 [[5, 6], [7]] := h5
  go_wp2_with fail
  refine (h3_pop _ _ _ _ _ _ _ _ h5).mono ?_
  rintro e w6 ⟨he, h6, k6⟩
  obtain rfl := ret_eq2 he (show _ = (5 : Int) from by decide) (show _ = (0 : Int) from by decide)
  replace h6 : Holds3 w6 g N L 3 2 [[6], [7]] := h6
  go_wp2_with fail
  refine (h3_first _ _ _ _ _ _ _ _ h6).mono ?_
  rintro e w7 ⟨he, k7⟩
  obtain rfl := ret_eq2 he (show _ = (7 : Int) from by decide) (show _ = (0 : Int) from by decide)
  have h7 := h6.still k7
  go_wp2_with fail
  refine (h3_len _ _ _ _ _ _ _ _ h7).mono ?_
  rintro e w8 ⟨he, rfl⟩
  obtain rfl := ret_eq he (show _ = (1 : Int) from by decide)
  go_wp2_with fail
  refine (h3_free _ _ _ _ _ _ _ h7).mono ?_
  rintro e w9 ⟨he, rfl⟩
  obtain rfl := ret_eq he (show _ = (1 : Int) from by decide)
  go_wp2_with fail
  refine (h3_remove _ _ _ _ _ _ _ _ _ h7).mono ?_
  rintro e w10 ⟨he, h10, k10⟩
  replace he := he.trans (show Ending.returned (.bool (remQb [[6], [7]] 0 6)) = .returned (.bool true) from by rw [show remQb [[6], [7]] 0 6 = true from by decide])
  subst he
  replace h10 : Holds3 w10 g N L 3 2 [[], [7]] := h10
  go_wp2_with fail
  refine (h3_list _ _ _ _ _ _ _ _ h10).mono ?_
  rintro e w11 ⟨v, rfl, hv, k11⟩
  obtain ⟨A, c, rfl⟩ := hv.slice_
  rw [show (listQ [[], [7]] 0).length = 0 from by decide]
  go_wp2
  go_ret
  have kk : ∀ {a b : World}, Keeps (PB g N L) a b → Keeps (fun b => w.heap.size ≤ b) a b := fun h => h.mono (by rintro k _ (rfl | rfl | rfl) <;> assumption)
  have k := ((((((kk k2).trans' (kk k3)).trans' (kk k4)).trans' (kk k5)).trans' (kk k6)).trans' (k7.mono (fun _ _ h => h.elim))).trans' (kk k10)
  exact ⟨rfl, (k1.trans k (fun b hb hb' => by omega)).trans' k11⟩

end Go.Proofs.Ytlfccifibhcacaa
