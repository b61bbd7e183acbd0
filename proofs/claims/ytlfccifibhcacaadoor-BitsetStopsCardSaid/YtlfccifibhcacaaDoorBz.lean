/- Sets of ids: Len, Has, Drop, Less, Sub of the program at alive's sets. -/
import Derived.Test.YtlfccifibhcacaaDoorBv
import Derived.Test.YtlfccifibhcacaaDoorBw
import Derived.Test.YtlfccifibhcacaaDoorKt
namespace Go.Proofs.YtlfccifibhcacaaDoor
open Go.RowKit Go.Shelf
set_option linter.unusedVariables false
set_option linter.unusedSimpArgs false

abbrev A4 (a b c d : Int) : Value := .agg #[.int .u64 a, .int .u64 b, .int .u64 c, .int .u64 d]

set_option maxHeartbeats 1000000 in
theorem ones_at (x : Int) (r : Int) (w : World) (h : x = 8 ∧ r = 1 ∨ x = 64 ∧ r = 1 ∨ x = 0 ∧ r = 0) : Calls Tryd.prog 18 #[.int .u64 x] w fun e w' => e = .returned (.int .i64 r) ∧ Keeps (fun _ => False) w w' := by
  rcases h with ⟨rfl, rfl⟩ | ⟨rfl, rfl⟩ | ⟨rfl, rfl⟩
  all_goals
    go_enter Tryd.func18, Tryd.ntmps18
    go_wp2
    go_ret
    exact ⟨by kernel_rfl, Keeps.refl _ _⟩

set_option maxHeartbeats 2000000 in
theorem has_70 (w : World) : Calls Tryd.prog 12 #[A4 8 64 0 0, .int .i64 70] w fun e w' => e = .returned (.bool true) ∧ Keeps (fun _ => False) w w' := by
  have hb := heap_alloc_new w (.cells #[.int .u64 8, .int .u64 64, .int .u64 0, .int .u64 0] 26)
  have k0 : Keeps (fun _ => False) w (w.alloc (.cells #[.int .u64 8, .int .u64 64, .int .u64 0, .int .u64 0] 26)) := (Keeps.refl _ _).alloc _
  go_enter Tryd.func12, Tryd.ntmps12
  go_wp2_with fail
  generalize (w.alloc (.cells #[.int .u64 8, .int .u64 64, .int .u64 0, .int .u64 0] 26)) = w0 at *
  refine (p_fine 70 _).mono ?_
  rintro e w1 ⟨rfl, k1⟩
  have d := k1.blk hb (fun x => x)
  have c0 : w1.cell? ⟨w.heap.size, 0, none⟩ = some (.int .u64 8) := (blkcell d 0).trans rfl
  have c1 : w1.cell? ⟨w.heap.size, 1, none⟩ = some (.int .u64 64) := (blkcell d 1).trans rfl
  go_wp2_with fail
  go_ret
  exact ⟨by kernel_rfl, k0.trans' k1⟩

set_option maxHeartbeats 2000000 in
theorem has_4 (w : World) : Calls Tryd.prog 12 #[A4 8 64 0 0, .int .i64 4] w fun e w' => e = .returned (.bool false) ∧ Keeps (fun _ => False) w w' := by
  have hb := heap_alloc_new w (.cells #[.int .u64 8, .int .u64 64, .int .u64 0, .int .u64 0] 26)
  have k0 : Keeps (fun _ => False) w (w.alloc (.cells #[.int .u64 8, .int .u64 64, .int .u64 0, .int .u64 0] 26)) := (Keeps.refl _ _).alloc _
  go_enter Tryd.func12, Tryd.ntmps12
  go_wp2_with fail
  generalize (w.alloc (.cells #[.int .u64 8, .int .u64 64, .int .u64 0, .int .u64 0] 26)) = w0 at *
  refine (p_fine 4 _).mono ?_
  rintro e w1 ⟨rfl, k1⟩
  have d := k1.blk hb (fun x => x)
  have c0 : w1.cell? ⟨w.heap.size, 0, none⟩ = some (.int .u64 8) := (blkcell d 0).trans rfl
  have c1 : w1.cell? ⟨w.heap.size, 1, none⟩ = some (.int .u64 64) := (blkcell d 1).trans rfl
  go_wp2_with fail
  go_ret
  exact ⟨by kernel_rfl, k0.trans' k1⟩

theorem ix_0 (w : World) : (Instr.index 26 (.agg #[.int .u64 8, .int .u64 64, .int .u64 0, .int .u64 0]) (.int .i64 0)).run Tryd.prog w = .ok (.int .u64 8) w := by kernel_rfl
theorem ix_1 (w : World) : (Instr.index 26 (.agg #[.int .u64 8, .int .u64 64, .int .u64 0, .int .u64 0]) (.int .i64 1)).run Tryd.prog w = .ok (.int .u64 64) w := by kernel_rfl
theorem ix_2 (w : World) : (Instr.index 26 (.agg #[.int .u64 8, .int .u64 64, .int .u64 0, .int .u64 0]) (.int .i64 2)).run Tryd.prog w = .ok (.int .u64 0) w := by kernel_rfl
theorem ix_3 (w : World) : (Instr.index 26 (.agg #[.int .u64 8, .int .u64 64, .int .u64 0, .int .u64 0]) (.int .i64 3)).run Tryd.prog w = .ok (.int .u64 0) w := by kernel_rfl
def cnt (k : Nat) : Int := if k = 0 then 0 else if k = 1 then 1 else 2
set_option maxHeartbeats 2000000 in
theorem len_2 (w : World) : Calls Tryd.prog 11 #[A4 8 64 0 0] w fun e w' => e = .returned (.int .i64 2) ∧ Keeps (fun _ => False) w w' := by
  have k0 : Keeps (fun _ => False) w (w.alloc (.cells #[.int .u64 8, .int .u64 64, .int .u64 0, .int .u64 0] 26)) := (Keeps.refl _ _).alloc _
  go_enter Tryd.func11, Tryd.ntmps11
  go_wp2_with fail
  generalize (w.alloc (.cells #[.int .u64 8, .int .u64 64, .int .u64 0, .int .u64 0] 26)) = w0 at *
  go_loopg [3, 5, 7] 4 (fun m n x i wr => ∃ k : Nat, i = .int .i64 k ∧ k + m = 4 ∧ n = .int .i64 (cnt k) ∧ Keeps (fun _ => False) w wr)
  case atStart => exact ⟨0, rfl, rfl, rfl, k0⟩
  case round =>
    obtain ⟨k, rfl, hkm, rfl, kw⟩ := hrel
    have hk : k = 0 ∨ k = 1 ∨ k = 2 ∨ k = 3 ∨ k = 4 := by omega
    rcases hk with rfl | rfl | rfl | rfl | rfl
    · go_wp2_with fail
      rw [ix_0]
      go_wp2_with fail
      refine (ones_at  8 1 _ (by decide)).mono ?_
      rintro e w1 ⟨rfl, k1⟩
      go_wp2_with fail
      go_roundg (gk - 1)
      case measure => omega
      case rel => exact ⟨1, by kernel_rfl, by omega, by kernel_rfl, kw.trans' k1⟩
    · go_wp2_with fail
      rw [ix_1]
      go_wp2_with fail
      refine (ones_at  64 1 _ (by decide)).mono ?_
      rintro e w1 ⟨rfl, k1⟩
      go_wp2_with fail
      go_roundg (gk - 1)
      case measure => omega
      case rel => exact ⟨2, by kernel_rfl, by omega, by kernel_rfl, kw.trans' k1⟩
    · go_wp2_with fail
      rw [ix_2]
      go_wp2_with fail
      refine (ones_at  0 0 _ (by decide)).mono ?_
      rintro e w1 ⟨rfl, k1⟩
      go_wp2_with fail
      go_roundg (gk - 1)
      case measure => omega
      case rel => exact ⟨3, by kernel_rfl, by omega, by kernel_rfl, kw.trans' k1⟩
    · go_wp2_with fail
      rw [ix_3]
      go_wp2_with fail
      refine (ones_at  0 0 _ (by decide)).mono ?_
      rintro e w1 ⟨rfl, k1⟩
      go_wp2_with fail
      go_roundg (gk - 1)
      case measure => omega
      case rel => exact ⟨4, by kernel_rfl, by omega, by kernel_rfl, kw.trans' k1⟩
    · go_wp2_with fail
      go_ret
      exact ⟨rfl, kw⟩

set_option maxHeartbeats 4000000 in
set_option maxRecDepth 100000 in
theorem drop_3 (w : World) : Calls Tryd.prog 15 #[A4 8 64 0 0, .int .i64 3] w fun e w' => e = .returned (A4 0 64 0 0) ∧ Keeps (fun _ => False) w w' := by
  have b1 := blkalloc (heap_alloc_new w (.cells #[.int .u64 8, .int .u64 64, .int .u64 0, .int .u64 0] 26)) (.cells #[.int .u64 0, .int .u64 0, .int .u64 0, .int .u64 0] 26)
  have b2 := heap_alloc_new (w.alloc (.cells #[.int .u64 8, .int .u64 64, .int .u64 0, .int .u64 0] 26)) (.cells #[.int .u64 0, .int .u64 0, .int .u64 0, .int .u64 0] 26)
  rw [World.size_alloc] at b2
  have k0 : Keeps (fun _ => False) w ((w.alloc (.cells #[.int .u64 8, .int .u64 64, .int .u64 0, .int .u64 0] 26)).alloc (.cells #[.int .u64 0, .int .u64 0, .int .u64 0, .int .u64 0] 26)) := ((Keeps.refl _ _).alloc _).alloc _
  go_enter Tryd.func15, Tryd.ntmps15
  go_wp2_with fail
  generalize ((w.alloc (.cells #[.int .u64 8, .int .u64 64, .int .u64 0, .int .u64 0] 26)).alloc (.cells #[.int .u64 0, .int .u64 0, .int .u64 0, .int .u64 0] 26)) = w0 at *
  refine (p_fine 3 w0).mono ?_
  rintro e w1 ⟨rfl, k1⟩
  have k01 := k0.trans' k1
  have d1 := k1.blk b1 (fun x => x)
  have d2 := k1.blk b2 (fun x => x)
  clear b1 b2 k0 k1
  have c0 : w1.cell? ⟨w.heap.size, 0, none⟩ = some (.int .u64 8) := (blkcell d1 0).trans rfl
  go_wp2_with fail
  refine wp_qtail (w0 := w1) 9 ⟨0, rfl⟩ (by kernel_rfl) (by kernel_rfl) ?_
  simp only [List.take_succ_cons, List.take_zero, List.drop_succ_cons, List.drop_zero]
  repeat go_big_quiet_step (fail)
  refine wpQuiet_nil (fun nr => ?_)
  have hand : bits .andNot .u64 8 8 = 0 := by kernel_rfl
  have k02 := k01.drewN nr
  have d1' := blkdrewN d1 nr
  have d2' := blkdrewN d2 nr
  clear c0 d1 d2 k01
  generalize w1.drewN nr = w2 at *
  have c0 : w2.cell? ⟨w.heap.size, 0, none⟩ = some (.int .u64 8) := (blkcell d1' 0).trans rfl
  have c1 : w2.cell? ⟨w.heap.size, 1, none⟩ = some (.int .u64 64) := (blkcell d1' 1).trans rfl
  have c2 : w2.cell? ⟨w.heap.size, 2, none⟩ = some (.int .u64 0) := (blkcell d1' 2).trans rfl
  have c3 : w2.cell? ⟨w.heap.size, 3, none⟩ = some (.int .u64 0) := (blkcell d1' 3).trans rfl
  have f0 := blkfrozen d1' 0
  have r0 : w2.cell? ⟨w.heap.size + 1, 0, none⟩ = some (.int .u64 0) := (blkcell d2' 0).trans rfl
  have r1 : w2.cell? ⟨w.heap.size + 1, 1, none⟩ = some (.int .u64 0) := (blkcell d2' 1).trans rfl
  have r2 : w2.cell? ⟨w.heap.size + 1, 2, none⟩ = some (.int .u64 0) := (blkcell d2' 2).trans rfl
  have r3 : w2.cell? ⟨w.heap.size + 1, 3, none⟩ = some (.int .u64 0) := (blkcell d2' 3).trans rfl
  have g0 := blkfrozen d2' 0
  have g1 := blkfrozen d2' 1
  have g2 := blkfrozen d2' 2
  have g3 := blkfrozen d2' 3
  go_wp2_with fail
  have dF := blkset (blkset (blkset (blkset (blkfar d2' (p := ⟨w.heap.size, 0, none⟩) (by simp) (.int .u64 0)) 0 (.int .u64 0)) 1 (.int .u64 64)) 2 (.int .u64 0)) 3 (.int .u64 0)
  exact bodyPost_ret (res4 Tryd.f15 4 _ rfl _ _ (.int .u64 0) (.int .u64 64) (.int .u64 0) (.int .u64 0) rfl dF) rfl ⟨rfl, ((((k02.setCell (.inr (by simp)) _).setCell (.inr (by simp)) _).setCell (.inr (by simp)) _).setCell (.inr (by simp)) _).setCell (.inr (by simp)) _⟩

theorem andn (a b : Int) (w : World) : Calls Tryd.prog 21 #[.int .u64 a, .int .u64 b] w fun e w' => e = .returned (.int .u64 (bits .andNot .u64 a b)) ∧ w' = w := by
  go_enter Tryd.func21, Tryd.ntmps21
  go_wp2
  go_ret
  exact ⟨rfl, rfl⟩
end Go.Proofs.YtlfccifibhcacaaDoor
