/- The alive of layer 24 (bucket), step by step; and who nobody made. -/
import Derived.Test.YtfnlmnpfflnaiaaBs
import Derived.Deep.LoopGhost
namespace Go.Proofs.Ytfnlmnpfflnaiaa
open Go.RowKit
set_option linter.unusedVariables false
set_option linter.unusedSimpArgs false

theorem ret_eq {e : Ending} {k : IntKind} {a b : Int} (h : e = .returned (.int k a)) (hab : a = b) : e = .returned (.int k b) := by rw [h, hab]
theorem ret_eqb {e : Ending} {a b : Int} {c d : Bool} (h : e = .returned (.tuple #[.int .i64 a, .bool c])) (hab : a = b) (hcd : c = d) : e = .returned (.tuple #[.int .i64 b, .bool d]) := by rw [h, hab, hcd]

theorem rds_two (w : World) (x y : Value) (t : TypeId) : Rds (fun _ => True) (w.alloc (.cells #[x, y] t)) (.slice (some ⟨w.heap.size, 0, none⟩) 2 2) 1 2 [x, y] := by
  have hb := heap_alloc_new w (.cells #[x, y] t)
  refine ⟨rfl, _, 2, rfl, Nat.le_refl _, .inr ⟨_, 0, rfl, trivial, by simp, fun j u hj => ?_⟩⟩
  rw [Nat.zero_add, blkcell hb j]
  match j, hj with
  | 0, hj => exact hj
  | 1, hj => exact hj
  | j + 2, hj => simp at hj

set_option maxHeartbeats 2000000 in
set_option maxRecDepth 100000 in
theorem law24_alive (w : World) : Calls Try.prog 6 #[] w fun e w' => e = .returned (.bool true) ∧ Keeps (fun _ => False) w w' := by
  go_enter Try.func6, Try.ntmps6
  go_wp2_with fail
  refine (b_new 2 _ (by omega)).mono ?_
  rintro e w1 ⟨T, g, N, L, rfl, hT, hg, hN, hL, h1, k1⟩
  have g1 := good_nil 2
  replace h1 : HoldsB w1 T g N L [[], []] := h1
  replace g1 : Good [[], []] := g1
  go_wp2_with fail
  refine (b_fall _ _ _ _ _ _ _ _ h1 g1).mono ?_
  rintro e w2 ⟨he, h2, k2⟩
  have g2 := g1.fall 0 3
  obtain rfl := ret_eq he (show _ = (0 : Int) from by decide)
  replace h2 : HoldsB w2 T g N L [[3], []] := h2
  replace g2 : Good [[3], []] := g2
  go_wp2_with fail
  refine (b_fall _ _ _ _ _ _ _ _ h2 g2).mono ?_
  rintro e w3 ⟨he, h3, k3⟩
  have g3 := g2.fall 0 1
  obtain rfl := ret_eq he (show _ = (0 : Int) from by decide)
  replace h3 : HoldsB w3 T g N L [[3, 1], []] := h3
  replace g3 : Good [[3, 1], []] := g3
  go_wp2_with fail
  refine (b_fall _ _ _ _ _ _ _ _ h3 g3).mono ?_
  rintro e w4 ⟨he, h4, k4⟩
  obtain rfl := ret_eq he (show _ = (7 : Int) from by decide)
  replace h4 : HoldsB w4 T g N L [[3, 1], []] := h4
  go_wp2_with fail
  refine (b_fall _ _ _ _ _ _ _ _ h4 g3).mono ?_
  rintro e w5 ⟨he, h5, k5⟩
  obtain rfl := ret_eq he (show _ = (8 : Int) from by decide)
  replace h5 : HoldsB w5 T g N L [[3, 1], []] := h5
  go_wp2_with fail
  refine (b_where _ _ _ _ _ _ _ h5).mono ?_
  rintro e w6 ⟨he, k6⟩
  obtain rfl := ret_eqb he (show _ = (0 : Int) from by decide) (show _ = true from by decide)
  have h6 := h5.still k6
  go_wp2_with fail
  refine (b_flush _ _ _ _ _ _ _ h6).mono ?_
  rintro e w7 ⟨v, he, hv, h7, k7⟩
  obtain ⟨A, c, rfl⟩ := hv.slice_
  replace he : e = .returned (.tuple #[.slice A 2 c, .int .i64 0]) := he
  subst he
  replace hv : Rds (fun b => w6.heap.size ≤ b) w7 (.slice A 2 c) 1 2 (ints [3, 1]) := hv
  replace h7 : HoldsB w7 T g N L [[], []] := h7
  go_wp2_with fail
  refine (b_where _ _ _ _ _ _ _ h7).mono ?_
  rintro e w8 ⟨he, k8⟩
  obtain rfl := ret_eqb he (show _ = (0 : Int) from by decide) (show _ = false from by decide)
  have h8 := h7.still k8
  have hv8 := hv.keeps k8 (fun _ _ _ x => x)
  have ka : Keeps (fun _ => False) w8 (w8.alloc (.cells #[.int .i64 3, .int .i64 1] 3)) := (Keeps.refl _ _).alloc _
  go_wp2_with fail
  refine (ref2_same 2 _ _ [3, 1] [3, 1] _ _ _ (hv8.keeps ka (fun _ _ _ x => x)) (rds_two w8 _ _ _) (by omega)).mono ?_
  rintro e w9 ⟨rfl, q9, rfl⟩
  have k9 := ka.drewN q9
  have h9 := h8.still k9
  go_wp2_with fail
  refine (b_many _ _ _ _ _ _ h9).mono ?_
  rintro e w10 ⟨rfl, rfl⟩
  go_wp2_with fail
  refine (b_list _ _ _ _ _ _ _ h9).mono ?_
  rintro e w11 ⟨u, rfl, hu, k11⟩
  obtain ⟨Au, cu, rfl⟩ := hu.slice_
  rw [show (listQ [[], []] 0).length = 0 from by decide]
  go_wp2
  go_ret
  have kk : ∀ {a b : World}, Keeps (PB g N L) a b → Keeps (fun b => w.heap.size ≤ b) a b := fun h => h.mono (by rintro k _ (rfl | rfl | rfl) <;> assumption)
  have k0 : ∀ {a b : World}, Keeps (fun _ => False) a b → Keeps (fun b => w.heap.size ≤ b) a b := fun h => h.mono (fun _ _ x => x.elim)
  have k := ((((((((kk k2).trans' (kk k3)).trans' (kk k4)).trans' (kk k5)).trans' (k0 k6)).trans' (kk k7)).trans' (k0 k8)).trans' (k0 k9)).trans' (k0 k11)
  exact ⟨rfl, k1.trans k (fun b hb hb' => by omega)⟩

/-! ### Buckets that nobody made -/
def NoB (w : World) (t : Value) : Prop := t = .pointer none ∨ ∃ T, t = .pointer (some ⟨T, 0, none⟩) ∧ w.cell? ⟨T, 0, none⟩ = some (.pointer none)

theorem n_ok (t : Value) (w : World) (h : NoB w t) : Calls Try.prog 20 #[t] w fun e w' => e = .returned (.bool false) ∧ w = w' := by
  rcases h with rfl | ⟨T, rfl, c0⟩
  all_goals
    go_enter Try.func20, Try.ntmps20
    go_wp2
    go_ret
    exact ⟨rfl, rfl⟩
theorem n_many (t : Value) (w : World) (h : NoB w t) : Calls Try.prog 18 #[t] w fun e w' => e = .returned (.int .i64 0) ∧ w = w' := by
  go_enter Try.func18, Try.ntmps18
  go_wp2_with (go_at_call 20; refine (n_ok t _ h).mono ?_; rintro e w' ⟨rfl, rfl⟩)
  go_ret
  exact ⟨rfl, rfl⟩
theorem n_list (t : Value) (k : Int) (w : World) (h : NoB w t) : Calls Try.prog 16 #[t, .int .i64 k] w fun e w' => e = .returned (.slice none 0 0) ∧ w = w' := by
  go_enter Try.func16, Try.ntmps16
  go_wp2_with (go_at_call 20; refine (n_ok t _ h).mono ?_; rintro e w' ⟨rfl, rfl⟩)
  go_ret
  exact ⟨rfl, rfl⟩
theorem n_fall (t : Value) (k p : Int) (w : World) (h : NoB w t) : Calls Try.prog 12 #[t, .int .i64 k, .int .i64 p] w fun e w' => e = .returned (.int .i64 2) ∧ w = w' := by
  go_enter Try.func12, Try.ntmps12
  go_wp2_with (go_at_call 20; refine (n_ok t _ h).mono ?_; rintro e w' ⟨rfl, rfl⟩)
  go_ret
  exact ⟨rfl, rfl⟩
theorem n_flush (t : Value) (k : Int) (w : World) (h : NoB w t) : Calls Try.prog 9 #[t, .int .i64 k] w fun e w' => e = .returned (.tuple #[.slice none 0 0, .int .i64 2]) ∧ w = w' := by
  go_enter Try.func9, Try.ntmps9
  go_wp2_with (go_at_call 20; refine (n_ok t _ h).mono ?_; rintro e w' ⟨rfl, rfl⟩)
  go_ret2
  exact ⟨rfl, rfl⟩
theorem n_where (t : Value) (p : Int) (w : World) (h : NoB w t) : Calls Try.prog 14 #[t, .int .i64 p] w fun e w' => e = .returned (.tuple #[.int .i64 0, .bool false]) ∧ w = w' := by
  go_enter Try.func14, Try.ntmps14
  go_wp2_with (go_at_call 18; refine (n_many t _ h).mono ?_; rintro e w' ⟨rfl, rfl⟩)
  go_loopg [9] 0 (fun m i wr => i = .int .i64 0 ∧ m = 0 ∧ wr = w)
  case atStart => exact ⟨rfl, rfl, rfl⟩
  case round =>
    obtain ⟨rfl, rfl, hwr⟩ := hrel
    obtain rfl := hwr.symm
    go_wp2
    go_ret2
    exact ⟨rfl, rfl⟩

set_option maxHeartbeats 2000000 in
set_option maxRecDepth 100000 in
theorem nobody (k p : Int) (w : World) : Calls Try.prog 5 #[.int .i64 k, .int .i64 p] w fun e w' => e = .returned (.bool true) ∧ Keeps (fun _ => False) w w' := by
  have hb0 := heap_alloc_new w (.cells #[.pointer none, .int .i64 0] 54)
  have hb1 := blkalloc hb0 (.cells #[.pointer none, .pointer (some ⟨w.heap.size, 0, none⟩)] 24)
  have hb2 := heap_alloc_new (w.alloc (.cells #[.pointer none, .int .i64 0] 54)) (.cells #[.pointer none, .pointer (some ⟨w.heap.size, 0, none⟩)] 24)
  rw [World.size_alloc] at hb2
  have hk0 : Keeps (fun _ => False) w ((w.alloc (.cells #[.pointer none, .int .i64 0] 54)).alloc (.cells #[.pointer none, .pointer (some ⟨w.heap.size, 0, none⟩)] 24)) := ((Keeps.refl _ _).alloc _).alloc _
  go_enter Try.func5, Try.ntmps5
  go_wp2_with fail
  obtain ⟨w0, hw0⟩ : ∃ w0, w0 = (w.alloc (.cells #[.pointer none, .int .i64 0] 54)).alloc (.cells #[.pointer none, .pointer (some ⟨w.heap.size, 0, none⟩)] 24) := ⟨_, rfl⟩
  rw [← hw0] at hb1 hb2 hk0 ⊢
  clear hw0 hb0
  obtain ⟨n, hn⟩ : ∃ n, n = w.heap.size := ⟨_, rfl⟩
  rw [← hn] at hb1 hb2 ⊢
  clear hn
  have a0 : w0.cell? ⟨n, 0, none⟩ = some _ := (blkcell hb1 0).trans rfl
  have b0 : w0.cell? ⟨n + 1, 0, none⟩ = some _ := (blkcell hb2 0).trans rfl
  have b1 : w0.cell? ⟨n + 1, 1, none⟩ = some _ := (blkcell hb2 1).trans rfl
  have nb0 : NoB w0 (.pointer none) := .inl rfl
  have nb1 : NoB w0 (.pointer (some ⟨n, 0, none⟩)) := .inr ⟨n, rfl, a0⟩
  clear hb1 hb2
  go_loopg [15] 2 (fun m i wr => ∃ j : Nat, i = .int .i64 j ∧ j + m = 2 ∧ wr = w0)
  case atStart => exact ⟨0, rfl, rfl, rfl⟩
  case round =>
    obtain ⟨j, rfl, hjm, hwr⟩ := hrel
    obtain rfl := hwr.symm
    clear hwr
    have h3 : j = 0 ∨ j = 1 ∨ j = 2 := by omega
    rcases h3 with rfl | rfl | rfl
    · go_wp2_with (first | (go_at_call 9; refine (n_flush _ _ _ nb0).mono ?_; rintro e w' ⟨rfl, rfl⟩) | (go_at_call 14; refine (n_where _ _ _ nb0).mono ?_; rintro e w' ⟨rfl, rfl⟩) | (go_at_call 12; refine (n_fall _ _ _ _ nb0).mono ?_; rintro e w' ⟨rfl, rfl⟩) | (go_at_call 16; refine (n_list _ _ _ nb0).mono ?_; rintro e w' ⟨rfl, rfl⟩) | (go_at_call 18; refine (n_many _ _ nb0).mono ?_; rintro e w' ⟨rfl, rfl⟩))
      go_roundg 1
      case measure => omega
      case rel => exact ⟨1, by go_num, rfl, rfl⟩
    · go_wp2_with (first | (go_at_call 9; refine (n_flush _ _ _ nb1).mono ?_; rintro e w' ⟨rfl, rfl⟩) | (go_at_call 14; refine (n_where _ _ _ nb1).mono ?_; rintro e w' ⟨rfl, rfl⟩) | (go_at_call 12; refine (n_fall _ _ _ _ nb1).mono ?_; rintro e w' ⟨rfl, rfl⟩) | (go_at_call 16; refine (n_list _ _ _ nb1).mono ?_; rintro e w' ⟨rfl, rfl⟩) | (go_at_call 18; refine (n_many _ _ nb1).mono ?_; rintro e w' ⟨rfl, rfl⟩))
      go_roundg 0
      case measure => omega
      case rel => exact ⟨2, by go_num, rfl, rfl⟩
    · go_wp2_with fail
      refine (law24_alive _).mono ?_
      rintro e w4 ⟨rfl, k4⟩
      go_wp2
      go_ret
      exact ⟨rfl, hk0.trans' k4⟩
end Go.Proofs.Ytfnlmnpfflnaiaa
