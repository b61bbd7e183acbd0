/- Sets of ids: fine, Add, Of of the program. -/
import Derived.Test.YtlfccifibhcacaaDoorBn
import Derived.Laws.BitsLemmas
namespace Go.Proofs.YtlfccifibhcacaaDoor
open Go.RowKit Go.Shelf
set_option linter.unusedVariables false
set_option linter.unusedSimpArgs false

theorem p_fine (z : Int) (w : World) : Calls Tryd.prog 17 #[.int .i64 z] w fun e w' => e = .returned (.bool (decide (0 ≤ z ∧ z ≤ 255))) ∧ Keeps (fun _ => False) w w' := by
  by_cases h : 0 ≤ z
  · have h1 : decide (0 ≤ z) = true := decide_eq_true h
    by_cases h2 : z ≤ 255
    · go_enter Tryd.func17, Tryd.ntmps17
      go_wp2
      go_ret
      exact ⟨by simp [h, h2], by repeat (first | exact Keeps.refl _ _ | apply Keeps.drew)⟩
    · go_enter Tryd.func17, Tryd.ntmps17
      go_wp2
      go_ret
      exact ⟨by simp [h2], by repeat (first | exact Keeps.refl _ _ | apply Keeps.drew)⟩
  · go_enter Tryd.func17, Tryd.ntmps17
    go_wp2
    go_ret
    exact ⟨by simp; omega, by repeat (first | exact Keeps.refl _ _ | apply Keeps.drew)⟩

theorem wrap_pow (k : Nat) (h : 2 ^ k < 18446744073709551616) : IntKind.u64.wrap (2 ^ k) = ((2 ^ k : Nat) : Int) := by
  have e : (2 : Int) ^ k = ((2 ^ k : Nat) : Int) := by push_cast; rfl
  rw [e]
  generalize 2 ^ k = p at *
  rw [IntKind.wrap_u64]
  omega
theorem res4 (fn : Func) (sl g : Nat) (hr : fn.results = #[.cell sl 26]) (tmps : Array Value) (w : World) (a b c d : Value) (h0 : tmps.getD sl undef = .pointer (some ⟨g, 0, none⟩)) (h : w.heap[g]? = some (.cells #[a, b, c, d] 26 (0, 0))) :
    (results fn tmps).run Tryd.prog w = .ok (.agg #[a, b, c, d]) w := by
  have c0 : w.cell? ⟨g, 0, none⟩ = some a := (blkcell h 0).trans rfl
  have c1 : w.cell? ⟨g, 1, none⟩ = some b := (blkcell h 1).trans rfl
  have c2 : w.cell? ⟨g, 2, none⟩ = some c := (blkcell h 2).trans rfl
  have c3 : w.cell? ⟨g, 3, none⟩ = some d := (blkcell h 3).trans rfl
  simp only [Array.getD_eq_getD_getElem?] at h0
  simp [results, hr, go_sem, h0, c0, c1, c2, c3]
theorem bits_or_u64 (a b : Nat) (ha : a < 18446744073709551616) (hb : b < 18446744073709551616) : bits .or .u64 (a : Int) (b : Int) = ((a ||| b : Nat) : Int) := by
  have hx : a ||| b < 2 ^ 64 := Nat.or_lt_two_pow (by omega) (by omega)
  have h1 : (BitVec.ofInt 64 (a : Int)).toNat = a := by
    rw [BitVec.ofInt_natCast, BitVec.toNat_ofNat]; exact Nat.mod_eq_of_lt (by omega)
  have h2 : (BitVec.ofInt 64 (b : Int)).toNat = b := by
    rw [BitVec.ofInt_natCast, BitVec.toNat_ofNat]; exact Nat.mod_eq_of_lt (by omega)
  show IntKind.u64.wrap ((BitVec.ofInt 64 (a : Int) ||| BitVec.ofInt 64 (b : Int)).toNat : Int) = _
  rw [BitVec.toNat_or, h1, h2, IntKind.wrap_u64]
  omega

set_option maxHeartbeats 4000000 in
set_option maxRecDepth 100000 in
theorem p_add_in (W : Nat → Nat) (hW : W64 W) (i : Nat) (h : i < 256) (w : World) :
    Calls Tryd.prog 10 #[setV W, .int .i64 i] w fun e w' => e = .returned (setV (addW W i)) ∧ Keeps (fun _ => False) w w' := by
  have hin : decide ((0 : Int) ≤ i ∧ (i : Int) ≤ 255) = true := decide_eq_true (by omega)
  have hp : 2 ^ (i % 64) < 18446744073709551616 := by
    have : (2 : Nat) ^ (i % 64) < 2 ^ 64 := Nat.pow_lt_pow_right (by omega) (by omega)
    simpa using this
  have : i / 64 = 0 ∨ i / 64 = 1 ∨ i / 64 = 2 ∨ i / 64 = 3 := by omega
  rcases this with e | e | e | e
  · have hq : (i : Int) / 64 = 0 := by omega
    have hA : addW W i = fun k => if k = 0 then W 0 ||| 2 ^ (i % 64) else W k := by funext k; unfold addW; rw [e]; by_cases hk : k = 0 <;> simp [hk]
    rw [hA]
    obtain ⟨A, hAW⟩ : ∃ A : Nat, A = W 0 ||| 2 ^ (i % 64) := ⟨_, rfl⟩
    rw [← hAW]
    have hor : bits .or .u64 (W 0 : Int) (IntKind.u64.wrap (2 ^ (i % 64))) = (A : Int) := by
      have e2 : IntKind.u64.wrap (2 ^ (i % 64)) = ((2 ^ (i % 64) : Nat) : Int) := wrap_pow (i % 64) hp
      rw [e2, bits_or_u64 (W 0) (2 ^ (i % 64)) (hW 0) hp, ← hAW]
    have hA64 : A < 18446744073709551616 := by rw [hAW]; exact Nat.or_lt_two_pow (n := 64) (hW 0) hp
    clear hA hAW e h
    go_enter Tryd.func10, Tryd.ntmps10
    go_wp2_with fail
    have b1 := blkalloc (heap_alloc_new w (.cells #[.int .u64 (W 0), .int .u64 (W 1), .int .u64 (W 2), .int .u64 (W 3)] 26)) (.cells #[.int .u64 0, .int .u64 0, .int .u64 0, .int .u64 0] 26)
    have b2 := heap_alloc_new (w.alloc (.cells #[.int .u64 (W 0), .int .u64 (W 1), .int .u64 (W 2), .int .u64 (W 3)] 26)) (.cells #[.int .u64 0, .int .u64 0, .int .u64 0, .int .u64 0] 26)
    rw [World.size_alloc] at b2
    have k0 : Keeps (fun _ => False) w ((w.alloc (.cells #[.int .u64 (W 0), .int .u64 (W 1), .int .u64 (W 2), .int .u64 (W 3)] 26)).alloc (.cells #[.int .u64 0, .int .u64 0, .int .u64 0, .int .u64 0] 26)) := ((Keeps.refl _ _).alloc _).alloc _
    generalize ((w.alloc (.cells #[.int .u64 (W 0), .int .u64 (W 1), .int .u64 (W 2), .int .u64 (W 3)] 26)).alloc (.cells #[.int .u64 0, .int .u64 0, .int .u64 0, .int .u64 0] 26)) = w0 at *
    refine (p_fine i w0).mono ?_
    rintro e w1 ⟨rfl, k1⟩
    rw [hin]
    have k01 := k0.trans' k1
    have d1 := k1.blk b1 (fun x => x)
    have d2 := k1.blk b2 (fun x => x)
    clear b1 b2 k0 k1
    have c0 : w1.cell? ⟨w.heap.size, 0, none⟩ = some (.int .u64 (W 0)) := (blkcell d1 0).trans rfl
    have c1 : w1.cell? ⟨w.heap.size, 1, none⟩ = some (.int .u64 (W 1)) := (blkcell d1 1).trans rfl
    have c2 : w1.cell? ⟨w.heap.size, 2, none⟩ = some (.int .u64 (W 2)) := (blkcell d1 2).trans rfl
    have c3 : w1.cell? ⟨w.heap.size, 3, none⟩ = some (.int .u64 (W 3)) := (blkcell d1 3).trans rfl
    have f0 := blkfrozen d1 0
    go_wp2_with fail
    refine wp_qtail (w0 := w1) 9 ⟨0, rfl⟩ (by kernel_rfl) (by kernel_rfl) ?_
    simp only [List.take_succ_cons, List.take_zero, List.drop_succ_cons, List.drop_zero]
    repeat go_big_quiet_step (fail)
    refine wpQuiet_nil (fun nr => ?_)
    have k02 := k01.drewN nr
    have d1' := blkdrewN d1 nr
    have d2' := blkdrewN d2 nr
    clear c0 c1 c2 c3 f0 d1 d2 k01
    generalize w1.drewN nr = w2 at *
    have c0 : w2.cell? ⟨w.heap.size, 0, none⟩ = some (.int .u64 (W 0)) := (blkcell d1' 0).trans rfl
    have c1 : w2.cell? ⟨w.heap.size, 1, none⟩ = some (.int .u64 (W 1)) := (blkcell d1' 1).trans rfl
    have c2 : w2.cell? ⟨w.heap.size, 2, none⟩ = some (.int .u64 (W 2)) := (blkcell d1' 2).trans rfl
    have c3 : w2.cell? ⟨w.heap.size, 3, none⟩ = some (.int .u64 (W 3)) := (blkcell d1' 3).trans rfl
    have f0 := blkfrozen d1' 0
    have f1 := blkfrozen d1' 1
    have f2 := blkfrozen d1' 2
    have f3 := blkfrozen d1' 3
    have r0 : w2.cell? ⟨w.heap.size + 1, 0, none⟩ = some (.int .u64 0) := (blkcell d2' 0).trans rfl
    have r1 : w2.cell? ⟨w.heap.size + 1, 1, none⟩ = some (.int .u64 0) := (blkcell d2' 1).trans rfl
    have r2 : w2.cell? ⟨w.heap.size + 1, 2, none⟩ = some (.int .u64 0) := (blkcell d2' 2).trans rfl
    have r3 : w2.cell? ⟨w.heap.size + 1, 3, none⟩ = some (.int .u64 0) := (blkcell d2' 3).trans rfl
    have g0 := blkfrozen d2' 0
    have g1 := blkfrozen d2' 1
    have g2 := blkfrozen d2' 2
    have g3 := blkfrozen d2' 3
    go_wp2_with fail
    have dF := blkset (blkset (blkset (blkset (blkfar d2' (p := ⟨w.heap.size, 0, none⟩) (by simp) (.int .u64 A)) 0 (.int .u64 (A))) 1 (.int .u64 (W 1))) 2 (.int .u64 (W 2))) 3 (.int .u64 (W 3))
    exact bodyPost_ret (res4 Tryd.f10 4 _ rfl _ _ (.int .u64 (A)) (.int .u64 (W 1)) (.int .u64 (W 2)) (.int .u64 (W 3)) rfl dF) rfl ⟨rfl, ((((k02.setCell (.inr (by simp)) _).setCell (.inr (by simp)) _).setCell (.inr (by simp)) _).setCell (.inr (by simp)) _).setCell (.inr (by simp)) _⟩
  · have hq : (i : Int) / 64 = 1 := by omega
    have hA : addW W i = fun k => if k = 1 then W 1 ||| 2 ^ (i % 64) else W k := by funext k; unfold addW; rw [e]; by_cases hk : k = 1 <;> simp [hk]
    rw [hA]
    obtain ⟨A, hAW⟩ : ∃ A : Nat, A = W 1 ||| 2 ^ (i % 64) := ⟨_, rfl⟩
    rw [← hAW]
    have hor : bits .or .u64 (W 1 : Int) (IntKind.u64.wrap (2 ^ (i % 64))) = (A : Int) := by
      have e2 : IntKind.u64.wrap (2 ^ (i % 64)) = ((2 ^ (i % 64) : Nat) : Int) := wrap_pow (i % 64) hp
      rw [e2, bits_or_u64 (W 1) (2 ^ (i % 64)) (hW 1) hp, ← hAW]
    have hA64 : A < 18446744073709551616 := by rw [hAW]; exact Nat.or_lt_two_pow (n := 64) (hW 1) hp
    clear hA hAW e h
    go_enter Tryd.func10, Tryd.ntmps10
    go_wp2_with fail
    have b1 := blkalloc (heap_alloc_new w (.cells #[.int .u64 (W 0), .int .u64 (W 1), .int .u64 (W 2), .int .u64 (W 3)] 26)) (.cells #[.int .u64 0, .int .u64 0, .int .u64 0, .int .u64 0] 26)
    have b2 := heap_alloc_new (w.alloc (.cells #[.int .u64 (W 0), .int .u64 (W 1), .int .u64 (W 2), .int .u64 (W 3)] 26)) (.cells #[.int .u64 0, .int .u64 0, .int .u64 0, .int .u64 0] 26)
    rw [World.size_alloc] at b2
    have k0 : Keeps (fun _ => False) w ((w.alloc (.cells #[.int .u64 (W 0), .int .u64 (W 1), .int .u64 (W 2), .int .u64 (W 3)] 26)).alloc (.cells #[.int .u64 0, .int .u64 0, .int .u64 0, .int .u64 0] 26)) := ((Keeps.refl _ _).alloc _).alloc _
    generalize ((w.alloc (.cells #[.int .u64 (W 0), .int .u64 (W 1), .int .u64 (W 2), .int .u64 (W 3)] 26)).alloc (.cells #[.int .u64 0, .int .u64 0, .int .u64 0, .int .u64 0] 26)) = w0 at *
    refine (p_fine i w0).mono ?_
    rintro e w1 ⟨rfl, k1⟩
    rw [hin]
    have k01 := k0.trans' k1
    have d1 := k1.blk b1 (fun x => x)
    have d2 := k1.blk b2 (fun x => x)
    clear b1 b2 k0 k1
    have c0 : w1.cell? ⟨w.heap.size, 0, none⟩ = some (.int .u64 (W 0)) := (blkcell d1 0).trans rfl
    have c1 : w1.cell? ⟨w.heap.size, 1, none⟩ = some (.int .u64 (W 1)) := (blkcell d1 1).trans rfl
    have c2 : w1.cell? ⟨w.heap.size, 2, none⟩ = some (.int .u64 (W 2)) := (blkcell d1 2).trans rfl
    have c3 : w1.cell? ⟨w.heap.size, 3, none⟩ = some (.int .u64 (W 3)) := (blkcell d1 3).trans rfl
    have f0 := blkfrozen d1 1
    go_wp2_with fail
    refine wp_qtail (w0 := w1) 9 ⟨0, rfl⟩ (by kernel_rfl) (by kernel_rfl) ?_
    simp only [List.take_succ_cons, List.take_zero, List.drop_succ_cons, List.drop_zero]
    repeat go_big_quiet_step (fail)
    refine wpQuiet_nil (fun nr => ?_)
    have k02 := k01.drewN nr
    have d1' := blkdrewN d1 nr
    have d2' := blkdrewN d2 nr
    clear c0 c1 c2 c3 f0 d1 d2 k01
    generalize w1.drewN nr = w2 at *
    have c0 : w2.cell? ⟨w.heap.size, 0, none⟩ = some (.int .u64 (W 0)) := (blkcell d1' 0).trans rfl
    have c1 : w2.cell? ⟨w.heap.size, 1, none⟩ = some (.int .u64 (W 1)) := (blkcell d1' 1).trans rfl
    have c2 : w2.cell? ⟨w.heap.size, 2, none⟩ = some (.int .u64 (W 2)) := (blkcell d1' 2).trans rfl
    have c3 : w2.cell? ⟨w.heap.size, 3, none⟩ = some (.int .u64 (W 3)) := (blkcell d1' 3).trans rfl
    have f0 := blkfrozen d1' 0
    have f1 := blkfrozen d1' 1
    have f2 := blkfrozen d1' 2
    have f3 := blkfrozen d1' 3
    have r0 : w2.cell? ⟨w.heap.size + 1, 0, none⟩ = some (.int .u64 0) := (blkcell d2' 0).trans rfl
    have r1 : w2.cell? ⟨w.heap.size + 1, 1, none⟩ = some (.int .u64 0) := (blkcell d2' 1).trans rfl
    have r2 : w2.cell? ⟨w.heap.size + 1, 2, none⟩ = some (.int .u64 0) := (blkcell d2' 2).trans rfl
    have r3 : w2.cell? ⟨w.heap.size + 1, 3, none⟩ = some (.int .u64 0) := (blkcell d2' 3).trans rfl
    have g0 := blkfrozen d2' 0
    have g1 := blkfrozen d2' 1
    have g2 := blkfrozen d2' 2
    have g3 := blkfrozen d2' 3
    go_wp2_with fail
    have dF := blkset (blkset (blkset (blkset (blkfar d2' (p := ⟨w.heap.size, 1, none⟩) (by simp) (.int .u64 A)) 0 (.int .u64 (W 0))) 1 (.int .u64 (A))) 2 (.int .u64 (W 2))) 3 (.int .u64 (W 3))
    exact bodyPost_ret (res4 Tryd.f10 4 _ rfl _ _ (.int .u64 (W 0)) (.int .u64 (A)) (.int .u64 (W 2)) (.int .u64 (W 3)) rfl dF) rfl ⟨rfl, ((((k02.setCell (.inr (by simp)) _).setCell (.inr (by simp)) _).setCell (.inr (by simp)) _).setCell (.inr (by simp)) _).setCell (.inr (by simp)) _⟩
  · have hq : (i : Int) / 64 = 2 := by omega
    have hA : addW W i = fun k => if k = 2 then W 2 ||| 2 ^ (i % 64) else W k := by funext k; unfold addW; rw [e]; by_cases hk : k = 2 <;> simp [hk]
    rw [hA]
    obtain ⟨A, hAW⟩ : ∃ A : Nat, A = W 2 ||| 2 ^ (i % 64) := ⟨_, rfl⟩
    rw [← hAW]
    have hor : bits .or .u64 (W 2 : Int) (IntKind.u64.wrap (2 ^ (i % 64))) = (A : Int) := by
      have e2 : IntKind.u64.wrap (2 ^ (i % 64)) = ((2 ^ (i % 64) : Nat) : Int) := wrap_pow (i % 64) hp
      rw [e2, bits_or_u64 (W 2) (2 ^ (i % 64)) (hW 2) hp, ← hAW]
    have hA64 : A < 18446744073709551616 := by rw [hAW]; exact Nat.or_lt_two_pow (n := 64) (hW 2) hp
    clear hA hAW e h
    go_enter Tryd.func10, Tryd.ntmps10
    go_wp2_with fail
    have b1 := blkalloc (heap_alloc_new w (.cells #[.int .u64 (W 0), .int .u64 (W 1), .int .u64 (W 2), .int .u64 (W 3)] 26)) (.cells #[.int .u64 0, .int .u64 0, .int .u64 0, .int .u64 0] 26)
    have b2 := heap_alloc_new (w.alloc (.cells #[.int .u64 (W 0), .int .u64 (W 1), .int .u64 (W 2), .int .u64 (W 3)] 26)) (.cells #[.int .u64 0, .int .u64 0, .int .u64 0, .int .u64 0] 26)
    rw [World.size_alloc] at b2
    have k0 : Keeps (fun _ => False) w ((w.alloc (.cells #[.int .u64 (W 0), .int .u64 (W 1), .int .u64 (W 2), .int .u64 (W 3)] 26)).alloc (.cells #[.int .u64 0, .int .u64 0, .int .u64 0, .int .u64 0] 26)) := ((Keeps.refl _ _).alloc _).alloc _
    generalize ((w.alloc (.cells #[.int .u64 (W 0), .int .u64 (W 1), .int .u64 (W 2), .int .u64 (W 3)] 26)).alloc (.cells #[.int .u64 0, .int .u64 0, .int .u64 0, .int .u64 0] 26)) = w0 at *
    refine (p_fine i w0).mono ?_
    rintro e w1 ⟨rfl, k1⟩
    rw [hin]
    have k01 := k0.trans' k1
    have d1 := k1.blk b1 (fun x => x)
    have d2 := k1.blk b2 (fun x => x)
    clear b1 b2 k0 k1
    have c0 : w1.cell? ⟨w.heap.size, 0, none⟩ = some (.int .u64 (W 0)) := (blkcell d1 0).trans rfl
    have c1 : w1.cell? ⟨w.heap.size, 1, none⟩ = some (.int .u64 (W 1)) := (blkcell d1 1).trans rfl
    have c2 : w1.cell? ⟨w.heap.size, 2, none⟩ = some (.int .u64 (W 2)) := (blkcell d1 2).trans rfl
    have c3 : w1.cell? ⟨w.heap.size, 3, none⟩ = some (.int .u64 (W 3)) := (blkcell d1 3).trans rfl
    have f0 := blkfrozen d1 2
    go_wp2_with fail
    refine wp_qtail (w0 := w1) 9 ⟨0, rfl⟩ (by kernel_rfl) (by kernel_rfl) ?_
    simp only [List.take_succ_cons, List.take_zero, List.drop_succ_cons, List.drop_zero]
    repeat go_big_quiet_step (fail)
    refine wpQuiet_nil (fun nr => ?_)
    have k02 := k01.drewN nr
    have d1' := blkdrewN d1 nr
    have d2' := blkdrewN d2 nr
    clear c0 c1 c2 c3 f0 d1 d2 k01
    generalize w1.drewN nr = w2 at *
    have c0 : w2.cell? ⟨w.heap.size, 0, none⟩ = some (.int .u64 (W 0)) := (blkcell d1' 0).trans rfl
    have c1 : w2.cell? ⟨w.heap.size, 1, none⟩ = some (.int .u64 (W 1)) := (blkcell d1' 1).trans rfl
    have c2 : w2.cell? ⟨w.heap.size, 2, none⟩ = some (.int .u64 (W 2)) := (blkcell d1' 2).trans rfl
    have c3 : w2.cell? ⟨w.heap.size, 3, none⟩ = some (.int .u64 (W 3)) := (blkcell d1' 3).trans rfl
    have f0 := blkfrozen d1' 0
    have f1 := blkfrozen d1' 1
    have f2 := blkfrozen d1' 2
    have f3 := blkfrozen d1' 3
    have r0 : w2.cell? ⟨w.heap.size + 1, 0, none⟩ = some (.int .u64 0) := (blkcell d2' 0).trans rfl
    have r1 : w2.cell? ⟨w.heap.size + 1, 1, none⟩ = some (.int .u64 0) := (blkcell d2' 1).trans rfl
    have r2 : w2.cell? ⟨w.heap.size + 1, 2, none⟩ = some (.int .u64 0) := (blkcell d2' 2).trans rfl
    have r3 : w2.cell? ⟨w.heap.size + 1, 3, none⟩ = some (.int .u64 0) := (blkcell d2' 3).trans rfl
    have g0 := blkfrozen d2' 0
    have g1 := blkfrozen d2' 1
    have g2 := blkfrozen d2' 2
    have g3 := blkfrozen d2' 3
    go_wp2_with fail
    have dF := blkset (blkset (blkset (blkset (blkfar d2' (p := ⟨w.heap.size, 2, none⟩) (by simp) (.int .u64 A)) 0 (.int .u64 (W 0))) 1 (.int .u64 (W 1))) 2 (.int .u64 (A))) 3 (.int .u64 (W 3))
    exact bodyPost_ret (res4 Tryd.f10 4 _ rfl _ _ (.int .u64 (W 0)) (.int .u64 (W 1)) (.int .u64 (A)) (.int .u64 (W 3)) rfl dF) rfl ⟨rfl, ((((k02.setCell (.inr (by simp)) _).setCell (.inr (by simp)) _).setCell (.inr (by simp)) _).setCell (.inr (by simp)) _).setCell (.inr (by simp)) _⟩
  · have hq : (i : Int) / 64 = 3 := by omega
    have hA : addW W i = fun k => if k = 3 then W 3 ||| 2 ^ (i % 64) else W k := by funext k; unfold addW; rw [e]; by_cases hk : k = 3 <;> simp [hk]
    rw [hA]
    obtain ⟨A, hAW⟩ : ∃ A : Nat, A = W 3 ||| 2 ^ (i % 64) := ⟨_, rfl⟩
    rw [← hAW]
    have hor : bits .or .u64 (W 3 : Int) (IntKind.u64.wrap (2 ^ (i % 64))) = (A : Int) := by
      have e2 : IntKind.u64.wrap (2 ^ (i % 64)) = ((2 ^ (i % 64) : Nat) : Int) := wrap_pow (i % 64) hp
      rw [e2, bits_or_u64 (W 3) (2 ^ (i % 64)) (hW 3) hp, ← hAW]
    have hA64 : A < 18446744073709551616 := by rw [hAW]; exact Nat.or_lt_two_pow (n := 64) (hW 3) hp
    clear hA hAW e h
    go_enter Tryd.func10, Tryd.ntmps10
    go_wp2_with fail
    have b1 := blkalloc (heap_alloc_new w (.cells #[.int .u64 (W 0), .int .u64 (W 1), .int .u64 (W 2), .int .u64 (W 3)] 26)) (.cells #[.int .u64 0, .int .u64 0, .int .u64 0, .int .u64 0] 26)
    have b2 := heap_alloc_new (w.alloc (.cells #[.int .u64 (W 0), .int .u64 (W 1), .int .u64 (W 2), .int .u64 (W 3)] 26)) (.cells #[.int .u64 0, .int .u64 0, .int .u64 0, .int .u64 0] 26)
    rw [World.size_alloc] at b2
    have k0 : Keeps (fun _ => False) w ((w.alloc (.cells #[.int .u64 (W 0), .int .u64 (W 1), .int .u64 (W 2), .int .u64 (W 3)] 26)).alloc (.cells #[.int .u64 0, .int .u64 0, .int .u64 0, .int .u64 0] 26)) := ((Keeps.refl _ _).alloc _).alloc _
    generalize ((w.alloc (.cells #[.int .u64 (W 0), .int .u64 (W 1), .int .u64 (W 2), .int .u64 (W 3)] 26)).alloc (.cells #[.int .u64 0, .int .u64 0, .int .u64 0, .int .u64 0] 26)) = w0 at *
    refine (p_fine i w0).mono ?_
    rintro e w1 ⟨rfl, k1⟩
    rw [hin]
    have k01 := k0.trans' k1
    have d1 := k1.blk b1 (fun x => x)
    have d2 := k1.blk b2 (fun x => x)
    clear b1 b2 k0 k1
    have c0 : w1.cell? ⟨w.heap.size, 0, none⟩ = some (.int .u64 (W 0)) := (blkcell d1 0).trans rfl
    have c1 : w1.cell? ⟨w.heap.size, 1, none⟩ = some (.int .u64 (W 1)) := (blkcell d1 1).trans rfl
    have c2 : w1.cell? ⟨w.heap.size, 2, none⟩ = some (.int .u64 (W 2)) := (blkcell d1 2).trans rfl
    have c3 : w1.cell? ⟨w.heap.size, 3, none⟩ = some (.int .u64 (W 3)) := (blkcell d1 3).trans rfl
    have f0 := blkfrozen d1 3
    go_wp2_with fail
    refine wp_qtail (w0 := w1) 9 ⟨0, rfl⟩ (by kernel_rfl) (by kernel_rfl) ?_
    simp only [List.take_succ_cons, List.take_zero, List.drop_succ_cons, List.drop_zero]
    repeat go_big_quiet_step (fail)
    refine wpQuiet_nil (fun nr => ?_)
    have k02 := k01.drewN nr
    have d1' := blkdrewN d1 nr
    have d2' := blkdrewN d2 nr
    clear c0 c1 c2 c3 f0 d1 d2 k01
    generalize w1.drewN nr = w2 at *
    have c0 : w2.cell? ⟨w.heap.size, 0, none⟩ = some (.int .u64 (W 0)) := (blkcell d1' 0).trans rfl
    have c1 : w2.cell? ⟨w.heap.size, 1, none⟩ = some (.int .u64 (W 1)) := (blkcell d1' 1).trans rfl
    have c2 : w2.cell? ⟨w.heap.size, 2, none⟩ = some (.int .u64 (W 2)) := (blkcell d1' 2).trans rfl
    have c3 : w2.cell? ⟨w.heap.size, 3, none⟩ = some (.int .u64 (W 3)) := (blkcell d1' 3).trans rfl
    have f0 := blkfrozen d1' 0
    have f1 := blkfrozen d1' 1
    have f2 := blkfrozen d1' 2
    have f3 := blkfrozen d1' 3
    have r0 : w2.cell? ⟨w.heap.size + 1, 0, none⟩ = some (.int .u64 0) := (blkcell d2' 0).trans rfl
    have r1 : w2.cell? ⟨w.heap.size + 1, 1, none⟩ = some (.int .u64 0) := (blkcell d2' 1).trans rfl
    have r2 : w2.cell? ⟨w.heap.size + 1, 2, none⟩ = some (.int .u64 0) := (blkcell d2' 2).trans rfl
    have r3 : w2.cell? ⟨w.heap.size + 1, 3, none⟩ = some (.int .u64 0) := (blkcell d2' 3).trans rfl
    have g0 := blkfrozen d2' 0
    have g1 := blkfrozen d2' 1
    have g2 := blkfrozen d2' 2
    have g3 := blkfrozen d2' 3
    go_wp2_with fail
    have dF := blkset (blkset (blkset (blkset (blkfar d2' (p := ⟨w.heap.size, 3, none⟩) (by simp) (.int .u64 A)) 0 (.int .u64 (W 0))) 1 (.int .u64 (W 1))) 2 (.int .u64 (W 2))) 3 (.int .u64 (A))
    exact bodyPost_ret (res4 Tryd.f10 4 _ rfl _ _ (.int .u64 (W 0)) (.int .u64 (W 1)) (.int .u64 (W 2)) (.int .u64 (A)) rfl dF) rfl ⟨rfl, ((((k02.setCell (.inr (by simp)) _).setCell (.inr (by simp)) _).setCell (.inr (by simp)) _).setCell (.inr (by simp)) _).setCell (.inr (by simp)) _⟩

set_option maxHeartbeats 4000000 in
set_option maxRecDepth 100000 in
theorem p_add_out (W : Nat → Nat) (z : Int) (h : ¬ (0 ≤ z ∧ z ≤ 255)) (w : World) :
    Calls Tryd.prog 10 #[setV W, .int .i64 z] w fun e w' => e = .returned (setV W) ∧ Keeps (fun _ => False) w w' := by
  have hin : decide (0 ≤ z ∧ z ≤ 255) = false := decide_eq_false h
  clear h
  go_enter Tryd.func10, Tryd.ntmps10
  go_wp2_with fail
  have b1 := blkalloc (heap_alloc_new w (.cells #[.int .u64 (W 0), .int .u64 (W 1), .int .u64 (W 2), .int .u64 (W 3)] 26)) (.cells #[.int .u64 0, .int .u64 0, .int .u64 0, .int .u64 0] 26)
  have b2 := heap_alloc_new (w.alloc (.cells #[.int .u64 (W 0), .int .u64 (W 1), .int .u64 (W 2), .int .u64 (W 3)] 26)) (.cells #[.int .u64 0, .int .u64 0, .int .u64 0, .int .u64 0] 26)
  rw [World.size_alloc] at b2
  have k0 : Keeps (fun _ => False) w ((w.alloc (.cells #[.int .u64 (W 0), .int .u64 (W 1), .int .u64 (W 2), .int .u64 (W 3)] 26)).alloc (.cells #[.int .u64 0, .int .u64 0, .int .u64 0, .int .u64 0] 26)) := ((Keeps.refl _ _).alloc _).alloc _
  generalize ((w.alloc (.cells #[.int .u64 (W 0), .int .u64 (W 1), .int .u64 (W 2), .int .u64 (W 3)] 26)).alloc (.cells #[.int .u64 0, .int .u64 0, .int .u64 0, .int .u64 0] 26)) = w0 at *
  refine (p_fine z w0).mono ?_
  rintro e w2 ⟨rfl, k1⟩
  rw [hin]
  have k02 := k0.trans' k1
  have d1' := k1.blk b1 (fun x => x)
  have d2' := k1.blk b2 (fun x => x)
  clear b1 b2 k0 k1
  have c0 : w2.cell? ⟨w.heap.size, 0, none⟩ = some (.int .u64 (W 0)) := (blkcell d1' 0).trans rfl
  have c1 : w2.cell? ⟨w.heap.size, 1, none⟩ = some (.int .u64 (W 1)) := (blkcell d1' 1).trans rfl
  have c2 : w2.cell? ⟨w.heap.size, 2, none⟩ = some (.int .u64 (W 2)) := (blkcell d1' 2).trans rfl
  have c3 : w2.cell? ⟨w.heap.size, 3, none⟩ = some (.int .u64 (W 3)) := (blkcell d1' 3).trans rfl
  have r0 : w2.cell? ⟨w.heap.size + 1, 0, none⟩ = some (.int .u64 0) := (blkcell d2' 0).trans rfl
  have r1 : w2.cell? ⟨w.heap.size + 1, 1, none⟩ = some (.int .u64 0) := (blkcell d2' 1).trans rfl
  have r2 : w2.cell? ⟨w.heap.size + 1, 2, none⟩ = some (.int .u64 0) := (blkcell d2' 2).trans rfl
  have r3 : w2.cell? ⟨w.heap.size + 1, 3, none⟩ = some (.int .u64 0) := (blkcell d2' 3).trans rfl
  have g0 := blkfrozen d2' 0
  have g1 := blkfrozen d2' 1
  have g2 := blkfrozen d2' 2
  have g3 := blkfrozen d2' 3
  go_wp2_with fail
  have dF := blkset (blkset (blkset (blkset d2' 0 (.int .u64 (W 0))) 1 (.int .u64 (W 1))) 2 (.int .u64 (W 2))) 3 (.int .u64 (W 3))
  exact bodyPost_ret (res4 Tryd.f10 4 _ rfl _ _ (.int .u64 (W 0)) (.int .u64 (W 1)) (.int .u64 (W 2)) (.int .u64 (W 3)) rfl dF) rfl ⟨rfl, (((k02.setCell (.inr (by simp)) _).setCell (.inr (by simp)) _).setCell (.inr (by simp)) _).setCell (.inr (by simp)) _⟩

theorem p_add (W : Nat → Nat) (hW : W64 W) (z : Int) (w : World) :
    Calls Tryd.prog 10 #[setV W, .int .i64 z] w fun e w' => e = .returned (setV (addI W z)) ∧ Keeps (fun _ => False) w w' := by
  by_cases h : 0 ≤ z ∧ z ≤ 255
  · obtain ⟨i, rfl⟩ : ∃ i : Nat, z = i := ⟨z.toNat, by omega⟩
    have e : addI W (i : Int) = addW W i := by unfold addI; rw [if_pos h, Int.toNat_natCast]
    rw [e]
    exact p_add_in W hW i (by omega) w
  · have e : addI W z = W := by unfold addI; rw [if_neg h]
    rw [e]
    exact p_add_out W z h w
end Go.Proofs.YtlfccifibhcacaaDoor
