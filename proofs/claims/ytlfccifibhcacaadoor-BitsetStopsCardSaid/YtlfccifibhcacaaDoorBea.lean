/- Sets of ids: each, Less, Sub of the program. -/
import Derived.Test.YtlfccifibhcacaaDoorBz
namespace Go.Proofs.YtlfccifibhcacaaDoor
open Go.RowKit Go.Shelf
set_option linter.unusedVariables false
set_option linter.unusedSimpArgs false

def an (a b : Nat → Int) (k : Nat) : Int := bits .andNot .u64 (a k) (b k)
def rd (a b : Nat → Int) (k j : Nat) : Int := if j < k then an a b j else a j

set_option maxHeartbeats 4000000 in
set_option maxRecDepth 100000 in
theorem each_less (a b : Nat → Int) (w : World) : Calls Tryd.prog 20 #[A4 (a 0) (a 1) (a 2) (a 3), A4 (b 0) (b 1) (b 2) (b 3), .func (.func 21) #[] #[]] w fun e w' => e = .returned (A4 (an a b 0) (an a b 1) (an a b 2) (an a b 3)) ∧ Keeps (fun _ => False) w w' := by
  have b1 := blkalloc (blkalloc (heap_alloc_new w (.cells #[.int .u64 (a 0), .int .u64 (a 1), .int .u64 (a 2), .int .u64 (a 3)] 26)) (.cells #[.int .u64 (b 0), .int .u64 (b 1), .int .u64 (b 2), .int .u64 (b 3)] 26)) (.cells #[.int .u64 0, .int .u64 0, .int .u64 0, .int .u64 0] 26)
  have b2 : (((w.alloc (.cells #[.int .u64 (a 0), .int .u64 (a 1), .int .u64 (a 2), .int .u64 (a 3)] 26)).alloc (.cells #[.int .u64 (b 0), .int .u64 (b 1), .int .u64 (b 2), .int .u64 (b 3)] 26)).alloc (.cells #[.int .u64 0, .int .u64 0, .int .u64 0, .int .u64 0] 26)).heap[w.heap.size + 1]? = some (.cells #[.int .u64 (b 0), .int .u64 (b 1), .int .u64 (b 2), .int .u64 (b 3)] 26 (0, 0)) := by
    have := blkalloc (heap_alloc_new (w.alloc (.cells #[.int .u64 (a 0), .int .u64 (a 1), .int .u64 (a 2), .int .u64 (a 3)] 26)) (.cells #[.int .u64 (b 0), .int .u64 (b 1), .int .u64 (b 2), .int .u64 (b 3)] 26)) (.cells #[.int .u64 0, .int .u64 0, .int .u64 0, .int .u64 0] 26)
    rwa [World.size_alloc] at this
  have b3 : (((w.alloc (.cells #[.int .u64 (a 0), .int .u64 (a 1), .int .u64 (a 2), .int .u64 (a 3)] 26)).alloc (.cells #[.int .u64 (b 0), .int .u64 (b 1), .int .u64 (b 2), .int .u64 (b 3)] 26)).alloc (.cells #[.int .u64 0, .int .u64 0, .int .u64 0, .int .u64 0] 26)).heap[w.heap.size + 1 + 1]? = some (.cells #[.int .u64 0, .int .u64 0, .int .u64 0, .int .u64 0] 26 (0, 0)) := by
    have := heap_alloc_new ((w.alloc (.cells #[.int .u64 (a 0), .int .u64 (a 1), .int .u64 (a 2), .int .u64 (a 3)] 26)).alloc (.cells #[.int .u64 (b 0), .int .u64 (b 1), .int .u64 (b 2), .int .u64 (b 3)] 26)) (.cells #[.int .u64 0, .int .u64 0, .int .u64 0, .int .u64 0] 26)
    rwa [World.size_alloc, World.size_alloc] at this
  have k0 : Keeps (fun _ => False) w (((w.alloc (.cells #[.int .u64 (a 0), .int .u64 (a 1), .int .u64 (a 2), .int .u64 (a 3)] 26)).alloc (.cells #[.int .u64 (b 0), .int .u64 (b 1), .int .u64 (b 2), .int .u64 (b 3)] 26)).alloc (.cells #[.int .u64 0, .int .u64 0, .int .u64 0, .int .u64 0] 26)) := (((Keeps.refl _ _).alloc _).alloc _).alloc _
  go_enter Tryd.func20, Tryd.ntmps20
  go_wp2_with fail
  generalize (((w.alloc (.cells #[.int .u64 (a 0), .int .u64 (a 1), .int .u64 (a 2), .int .u64 (a 3)] 26)).alloc (.cells #[.int .u64 (b 0), .int .u64 (b 1), .int .u64 (b 2), .int .u64 (b 3)] 26)).alloc (.cells #[.int .u64 0, .int .u64 0, .int .u64 0, .int .u64 0] 26)) = w0 at *
  go_loopg [7, 8] 4 (fun m x i wr => ∃ k : Nat, i = .int .i64 k ∧ k + m = 4 ∧ Keeps (fun _ => False) w wr ∧ wr.heap[w.heap.size]? = some (.cells #[.int .u64 (rd a b k 0), .int .u64 (rd a b k 1), .int .u64 (rd a b k 2), .int .u64 (rd a b k 3)] 26 (0, 0)) ∧
    wr.heap[w.heap.size + 1]? = some (.cells #[.int .u64 (b 0), .int .u64 (b 1), .int .u64 (b 2), .int .u64 (b 3)] 26 (0, 0)) ∧ wr.heap[w.heap.size + 1 + 1]? = some (.cells #[.int .u64 0, .int .u64 0, .int .u64 0, .int .u64 0] 26 (0, 0)))
  case atStart => exact ⟨0, rfl, rfl, k0, b1, b2, b3⟩
  case round =>
    obtain ⟨k, rfl, hkm, kw, d1, d2, d3⟩ := hrel
    clear b1 b2 b3 k0
    have hk : k = 0 ∨ k = 1 ∨ k = 2 ∨ k = 3 ∨ k = 4 := by omega
    rcases hk with rfl | rfl | rfl | rfl | rfl
    · have e1 : wr.heap[w.heap.size]? = some (.cells #[.int .u64 (a 0), .int .u64 (a 1), .int .u64 (a 2), .int .u64 (a 3)] 26 (0, 0)) := d1
      have c1 : wr.cell? ⟨w.heap.size, 0, none⟩ = some (.int .u64 (a 0)) := (blkcell e1 0).trans rfl
      have c2 : wr.cell? ⟨w.heap.size + 1, 0, none⟩ = some (.int .u64 (b 0)) := (blkcell d2 0).trans rfl
      clear d1
      go_wp2_with fail
      refine wp_qtail (w0 := wr) 10 ⟨0, rfl⟩ (by kernel_rfl) (by kernel_rfl) ?_
      simp only [List.take_succ_cons, List.take_zero, List.drop_succ_cons, List.drop_zero]
      repeat (go_big_quiet_step ((go_at_call 21; exact calls_q ((andn _ _ _).mono (fun _ _ h => ⟨h.1, 0, h.2⟩)))))
      refine wpQuiet_nil (fun nr => ?_)
      have kw2 := kw.drewN nr
      have e1' := blkdrewN e1 nr
      have e2' := blkdrewN d2 nr
      have e3' := blkdrewN d3 nr
      clear c1 c2 e1 d2 d3 kw
      generalize wr.drewN nr = w2 at *
      have c1 : w2.cell? ⟨w.heap.size, 0, none⟩ = some (.int .u64 (a 0)) := (blkcell e1' 0).trans rfl
      have f1 := blkfrozen e1' 0
      go_wp2_with fail
      go_roundg (gk - 1)
      case measure => omega
      case rel => exact ⟨1, by kernel_rfl, by omega, kw2.setCell (.inr (Nat.le_refl _)) _, blkset e1' 0 _, blkfar e2' (by simp) _, blkfar e3' (by show w.heap.size + 1 + 1 ≠ w.heap.size; omega) _⟩
    · have e1 : wr.heap[w.heap.size]? = some (.cells #[.int .u64 (an a b 0), .int .u64 (a 1), .int .u64 (a 2), .int .u64 (a 3)] 26 (0, 0)) := d1
      have c1 : wr.cell? ⟨w.heap.size, 1, none⟩ = some (.int .u64 (a 1)) := (blkcell e1 1).trans rfl
      have c2 : wr.cell? ⟨w.heap.size + 1, 1, none⟩ = some (.int .u64 (b 1)) := (blkcell d2 1).trans rfl
      clear d1
      go_wp2_with fail
      refine wp_qtail (w0 := wr) 10 ⟨0, rfl⟩ (by kernel_rfl) (by kernel_rfl) ?_
      simp only [List.take_succ_cons, List.take_zero, List.drop_succ_cons, List.drop_zero]
      repeat (go_big_quiet_step ((go_at_call 21; exact calls_q ((andn _ _ _).mono (fun _ _ h => ⟨h.1, 0, h.2⟩)))))
      refine wpQuiet_nil (fun nr => ?_)
      have kw2 := kw.drewN nr
      have e1' := blkdrewN e1 nr
      have e2' := blkdrewN d2 nr
      have e3' := blkdrewN d3 nr
      clear c1 c2 e1 d2 d3 kw
      generalize wr.drewN nr = w2 at *
      have c1 : w2.cell? ⟨w.heap.size, 1, none⟩ = some (.int .u64 (a 1)) := (blkcell e1' 1).trans rfl
      have f1 := blkfrozen e1' 1
      go_wp2_with fail
      go_roundg (gk - 1)
      case measure => omega
      case rel => exact ⟨2, by kernel_rfl, by omega, kw2.setCell (.inr (Nat.le_refl _)) _, blkset e1' 1 _, blkfar e2' (by simp) _, blkfar e3' (by show w.heap.size + 1 + 1 ≠ w.heap.size; omega) _⟩
    · have e1 : wr.heap[w.heap.size]? = some (.cells #[.int .u64 (an a b 0), .int .u64 (an a b 1), .int .u64 (a 2), .int .u64 (a 3)] 26 (0, 0)) := d1
      have c1 : wr.cell? ⟨w.heap.size, 2, none⟩ = some (.int .u64 (a 2)) := (blkcell e1 2).trans rfl
      have c2 : wr.cell? ⟨w.heap.size + 1, 2, none⟩ = some (.int .u64 (b 2)) := (blkcell d2 2).trans rfl
      clear d1
      go_wp2_with fail
      refine wp_qtail (w0 := wr) 10 ⟨0, rfl⟩ (by kernel_rfl) (by kernel_rfl) ?_
      simp only [List.take_succ_cons, List.take_zero, List.drop_succ_cons, List.drop_zero]
      repeat (go_big_quiet_step ((go_at_call 21; exact calls_q ((andn _ _ _).mono (fun _ _ h => ⟨h.1, 0, h.2⟩)))))
      refine wpQuiet_nil (fun nr => ?_)
      have kw2 := kw.drewN nr
      have e1' := blkdrewN e1 nr
      have e2' := blkdrewN d2 nr
      have e3' := blkdrewN d3 nr
      clear c1 c2 e1 d2 d3 kw
      generalize wr.drewN nr = w2 at *
      have c1 : w2.cell? ⟨w.heap.size, 2, none⟩ = some (.int .u64 (a 2)) := (blkcell e1' 2).trans rfl
      have f1 := blkfrozen e1' 2
      go_wp2_with fail
      go_roundg (gk - 1)
      case measure => omega
      case rel => exact ⟨3, by kernel_rfl, by omega, kw2.setCell (.inr (Nat.le_refl _)) _, blkset e1' 2 _, blkfar e2' (by simp) _, blkfar e3' (by show w.heap.size + 1 + 1 ≠ w.heap.size; omega) _⟩
    · have e1 : wr.heap[w.heap.size]? = some (.cells #[.int .u64 (an a b 0), .int .u64 (an a b 1), .int .u64 (an a b 2), .int .u64 (a 3)] 26 (0, 0)) := d1
      have c1 : wr.cell? ⟨w.heap.size, 3, none⟩ = some (.int .u64 (a 3)) := (blkcell e1 3).trans rfl
      have c2 : wr.cell? ⟨w.heap.size + 1, 3, none⟩ = some (.int .u64 (b 3)) := (blkcell d2 3).trans rfl
      clear d1
      go_wp2_with fail
      refine wp_qtail (w0 := wr) 10 ⟨0, rfl⟩ (by kernel_rfl) (by kernel_rfl) ?_
      simp only [List.take_succ_cons, List.take_zero, List.drop_succ_cons, List.drop_zero]
      repeat (go_big_quiet_step ((go_at_call 21; exact calls_q ((andn _ _ _).mono (fun _ _ h => ⟨h.1, 0, h.2⟩)))))
      refine wpQuiet_nil (fun nr => ?_)
      have kw2 := kw.drewN nr
      have e1' := blkdrewN e1 nr
      have e2' := blkdrewN d2 nr
      have e3' := blkdrewN d3 nr
      clear c1 c2 e1 d2 d3 kw
      generalize wr.drewN nr = w2 at *
      have c1 : w2.cell? ⟨w.heap.size, 3, none⟩ = some (.int .u64 (a 3)) := (blkcell e1' 3).trans rfl
      have f1 := blkfrozen e1' 3
      go_wp2_with fail
      go_roundg (gk - 1)
      case measure => omega
      case rel => exact ⟨4, by kernel_rfl, by omega, kw2.setCell (.inr (Nat.le_refl _)) _, blkset e1' 3 _, blkfar e2' (by simp) _, blkfar e3' (by show w.heap.size + 1 + 1 ≠ w.heap.size; omega) _⟩
    · have e1 : wr.heap[w.heap.size]? = some (.cells #[.int .u64 (an a b 0), .int .u64 (an a b 1), .int .u64 (an a b 2), .int .u64 (an a b 3)] 26 (0, 0)) := d1
      have c0 : wr.cell? ⟨w.heap.size, 0, none⟩ = some (.int .u64 (an a b 0)) := (blkcell e1 0).trans rfl
      have c1 : wr.cell? ⟨w.heap.size, 1, none⟩ = some (.int .u64 (an a b 1)) := (blkcell e1 1).trans rfl
      have c2 : wr.cell? ⟨w.heap.size, 2, none⟩ = some (.int .u64 (an a b 2)) := (blkcell e1 2).trans rfl
      have c3 : wr.cell? ⟨w.heap.size, 3, none⟩ = some (.int .u64 (an a b 3)) := (blkcell e1 3).trans rfl
      have r0 : wr.cell? ⟨w.heap.size + 1 + 1, 0, none⟩ = some (.int .u64 0) := (blkcell d3 0).trans rfl
      have r1 : wr.cell? ⟨w.heap.size + 1 + 1, 1, none⟩ = some (.int .u64 0) := (blkcell d3 1).trans rfl
      have r2 : wr.cell? ⟨w.heap.size + 1 + 1, 2, none⟩ = some (.int .u64 0) := (blkcell d3 2).trans rfl
      have r3 : wr.cell? ⟨w.heap.size + 1 + 1, 3, none⟩ = some (.int .u64 0) := (blkcell d3 3).trans rfl
      have g0 := blkfrozen d3 0
      have g1 := blkfrozen d3 1
      have g2 := blkfrozen d3 2
      have g3 := blkfrozen d3 3
      clear d1
      go_wp2_with fail
      have dF := blkset (blkset (blkset (blkset d3 0 (.int .u64 (an a b 0))) 1 (.int .u64 (an a b 1))) 2 (.int .u64 (an a b 2))) 3 (.int .u64 (an a b 3))
      exact bodyPost_ret (res4 Tryd.f20 6 _ rfl _ _ (.int .u64 (an a b 0)) (.int .u64 (an a b 1)) (.int .u64 (an a b 2)) (.int .u64 (an a b 3)) rfl dF) rfl ⟨rfl, (((kw.setCell (.inr (by simp; omega)) _).setCell (.inr (by simp; omega)) _).setCell (.inr (by simp; omega)) _).setCell (.inr (by simp; omega)) _⟩

set_option maxHeartbeats 4000000 in
set_option maxRecDepth 100000 in
theorem p_less (a b : Nat → Int) (w : World) : Calls Tryd.prog 19 #[A4 (a 0) (a 1) (a 2) (a 3), A4 (b 0) (b 1) (b 2) (b 3)] w fun e w' => e = .returned (A4 (an a b 0) (an a b 1) (an a b 2) (an a b 3)) ∧ Keeps (fun _ => False) w w' := by
  have b3 : (((w.alloc (.cells #[.int .u64 (a 0), .int .u64 (a 1), .int .u64 (a 2), .int .u64 (a 3)] 26)).alloc (.cells #[.int .u64 (b 0), .int .u64 (b 1), .int .u64 (b 2), .int .u64 (b 3)] 26)).alloc (.cells #[.int .u64 0, .int .u64 0, .int .u64 0, .int .u64 0] 26)).heap[w.heap.size + 1 + 1]? = some (.cells #[.int .u64 0, .int .u64 0, .int .u64 0, .int .u64 0] 26 (0, 0)) := by
    have := heap_alloc_new ((w.alloc (.cells #[.int .u64 (a 0), .int .u64 (a 1), .int .u64 (a 2), .int .u64 (a 3)] 26)).alloc (.cells #[.int .u64 (b 0), .int .u64 (b 1), .int .u64 (b 2), .int .u64 (b 3)] 26)) (.cells #[.int .u64 0, .int .u64 0, .int .u64 0, .int .u64 0] 26)
    rwa [World.size_alloc, World.size_alloc] at this
  have k0 : Keeps (fun _ => False) w (((w.alloc (.cells #[.int .u64 (a 0), .int .u64 (a 1), .int .u64 (a 2), .int .u64 (a 3)] 26)).alloc (.cells #[.int .u64 (b 0), .int .u64 (b 1), .int .u64 (b 2), .int .u64 (b 3)] 26)).alloc (.cells #[.int .u64 0, .int .u64 0, .int .u64 0, .int .u64 0] 26)) := (((Keeps.refl _ _).alloc _).alloc _).alloc _
  go_enter Tryd.func19, Tryd.ntmps19
  go_wp2_with fail
  generalize (((w.alloc (.cells #[.int .u64 (a 0), .int .u64 (a 1), .int .u64 (a 2), .int .u64 (a 3)] 26)).alloc (.cells #[.int .u64 (b 0), .int .u64 (b 1), .int .u64 (b 2), .int .u64 (b 3)] 26)).alloc (.cells #[.int .u64 0, .int .u64 0, .int .u64 0, .int .u64 0] 26)) = w0 at *
  refine (each_less a b w0).mono ?_
  rintro e w1 ⟨rfl, k1⟩
  have kw := k0.trans' k1
  have d3 := k1.blk b3 (fun x => x)
  obtain ⟨n, hn⟩ : ∃ n, n = an a b := ⟨_, rfl⟩
  rw [← hn]
  have HN := Lib.hid hn
  clear hn
  have r0 : w1.cell? ⟨w.heap.size + 1 + 1, 0, none⟩ = some (.int .u64 0) := (blkcell d3 0).trans rfl
  have r1 : w1.cell? ⟨w.heap.size + 1 + 1, 1, none⟩ = some (.int .u64 0) := (blkcell d3 1).trans rfl
  have r2 : w1.cell? ⟨w.heap.size + 1 + 1, 2, none⟩ = some (.int .u64 0) := (blkcell d3 2).trans rfl
  have r3 : w1.cell? ⟨w.heap.size + 1 + 1, 3, none⟩ = some (.int .u64 0) := (blkcell d3 3).trans rfl
  have g0 := blkfrozen d3 0
  have g1 := blkfrozen d3 1
  have g2 := blkfrozen d3 2
  have g3 := blkfrozen d3 3
  go_wp2_with fail
  have dF := blkset (blkset (blkset (blkset d3 0 (.int .u64 (n 0))) 1 (.int .u64 (n 1))) 2 (.int .u64 (n 2))) 3 (.int .u64 (n 3))
  exact bodyPost_ret (res4 Tryd.f19 4 _ rfl _ _ (.int .u64 (n 0)) (.int .u64 (n 1)) (.int .u64 (n 2)) (.int .u64 (n 3)) rfl dF) rfl ⟨by rw [← HN.out], (((kw.setCell (.inr (by simp; omega)) _).setCell (.inr (by simp; omega)) _).setCell (.inr (by simp; omega)) _).setCell (.inr (by simp; omega)) _⟩

set_option maxHeartbeats 4000000 in
theorem sub_at (a0 a1 a2 a3 b0 b1 b2 b3 : Int) (r : Bool) (w : World)
    (hr : ∀ w, (Op.equalIn 10000 26 (A4 (bits .andNot .u64 a0 b0) (bits .andNot .u64 a1 b1) (bits .andNot .u64 a2 b2) (bits .andNot .u64 a3 b3)) (A4 0 0 0 0)).run Tryd.prog w = .ok r w) :
    Calls Tryd.prog 14 #[A4 a0 a1 a2 a3, A4 b0 b1 b2 b3] w fun e w' => e = .returned (.bool r) ∧ Keeps (fun _ => False) w w' := by
  have hl := p_less (fun k => if k = 0 then a0 else if k = 1 then a1 else if k = 2 then a2 else a3) (fun k => if k = 0 then b0 else if k = 1 then b1 else if k = 2 then b2 else b3)
  have hl' : ∀ w, Calls Tryd.prog 19 #[A4 a0 a1 a2 a3, A4 b0 b1 b2 b3] w fun e w' => e = .returned (A4 (bits .andNot .u64 a0 b0) (bits .andNot .u64 a1 b1) (bits .andNot .u64 a2 b2) (bits .andNot .u64 a3 b3)) ∧ Keeps (fun _ => False) w w' := hl
  have k0 : Keeps (fun _ => False) w ((w.alloc (.cells #[.int .u64 a0, .int .u64 a1, .int .u64 a2, .int .u64 a3] 26)).alloc (.cells #[.int .u64 b0, .int .u64 b1, .int .u64 b2, .int .u64 b3] 26)) := ((Keeps.refl _ _).alloc _).alloc _
  clear hl
  generalize bits .andNot .u64 a0 b0 = n0 at *
  generalize bits .andNot .u64 a1 b1 = n1 at *
  generalize bits .andNot .u64 a2 b2 = n2 at *
  generalize bits .andNot .u64 a3 b3 = n3 at *
  have HL := Lib.hid hl'
  clear hl'
  go_enter Tryd.func14, Tryd.ntmps14
  go_wp2_with fail
  refine (HL.out _).mono ?_
  rintro e w1 ⟨rfl, k1⟩
  go_wp2_with fail
  go_ret
  exact ⟨rfl, k0.trans' k1⟩

theorem sub_yes (w : World) : Calls Tryd.prog 14 #[A4 0 64 0 0, A4 8 64 0 0] w fun e w' => e = .returned (.bool true) ∧ Keeps (fun _ => False) w w' := sub_at 0 64 0 0 8 64 0 0 true w (fun w => by kernel_rfl)
theorem sub_no (w : World) : Calls Tryd.prog 14 #[A4 40 64 0 0, A4 8 64 0 0] w fun e w' => e = .returned (.bool false) ∧ Keeps (fun _ => False) w w' := sub_at 40 64 0 0 8 64 0 0 false w (fun w => by kernel_rfl)
end Go.Proofs.YtlfccifibhcacaaDoor
