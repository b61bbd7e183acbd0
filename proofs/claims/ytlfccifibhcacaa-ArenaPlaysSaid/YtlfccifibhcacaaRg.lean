/- The methods of a ring (becket/rings), each by its own contract. -/
import Derived.Test.YtlfccifibhcacaaProg
import Derived.Test.YtlfccifibhcacaaKq
import Derived.Outline
import Derived.Lib.SliceRun
import Derived.Deep.OwnRows
namespace Go.Proofs.Ytlfccifibhcacaa
open Go.RowKit
set_option linter.unusedVariables false
set_option linter.unusedSimpArgs false

/-- A ring: its own block g, and the block s of its things. -/
structure IsRing (w : World) (g s n : Nat) (xs : List Int) (f m : Nat) : Prop where
  own : w.heap[g]? = some (.cells #[.bool true, .slice (some ⟨s, 0, none⟩) n n, .int .i64 f, .int .i64 m] 89 (0, 0))
  all : w.heap[s]? = some (.cells (xs.map (Value.int .i64)).toArray 3 (0, 0))
  len : xs.length = n
  room : n ≤ 1024
  many : m ≤ n
  from_ : f < n ∨ (f = 0 ∧ n = 0)
  ne : g ≠ s

namespace IsRing
variable {w w' : World} {g s n f m : Nat} {xs : List Int}
theorem c0 (h : IsRing w g s n xs f m) : w.cell? ⟨g, 0, none⟩ = some (.bool true) := (blkcell h.own 0).trans rfl
theorem c1 (h : IsRing w g s n xs f m) : w.cell? ⟨g, 1, none⟩ = some (.slice (some ⟨s, 0, none⟩) n n) := (blkcell h.own 1).trans rfl
theorem c2 (h : IsRing w g s n xs f m) : w.cell? ⟨g, 2, none⟩ = some (.int .i64 f) := (blkcell h.own 2).trans rfl
theorem c3 (h : IsRing w g s n xs f m) : w.cell? ⟨g, 3, none⟩ = some (.int .i64 m) := (blkcell h.own 3).trans rfl
theorem cx (h : IsRing w g s n xs f m) (i : Nat) (hi : i < n) : w.cell? ⟨s, i, none⟩ = some (.int .i64 (xs.getD i 0)) := by
  have := h.len
  rw [blkcell h.all i]; simp [show i < xs.length by omega, List.getD]
theorem drewN (h : IsRing w g s n xs f m) (k : Nat) : IsRing (w.drewN k) g s n xs f m := ⟨h.own, h.all, h.len, h.room, h.many, h.from_, h.ne⟩
theorem put (h : IsRing w g s n xs f m) (p : Nat) (x : Int) : IsRing (w.setCell ⟨s, p, none⟩ (.int .i64 x)) g s n (xs.set p x) f m := by
  refine ⟨blkfar h.own h.ne _, ?_, by simpa using h.len, h.room, h.many, h.from_, h.ne⟩
  rw [blkset h.all p (.int .i64 x)]; simp [List.map_set]
theorem setMany (h : IsRing w g s n xs f m) (m' : Nat) (hm : m' ≤ n) {v : Value} (hv : v = .int .i64 (m' : Int)) : IsRing (w.setCell ⟨g, 3, none⟩ v) g s n xs f m' := by
  subst hv
  exact ⟨by rw [blkset h.own]; rfl, blkfar h.all h.ne.symm _, h.len, h.room, hm, h.from_, h.ne⟩
theorem setFrom (h : IsRing w g s n xs f m) (f' : Nat) (hf : f' < n ∨ (f' = 0 ∧ n = 0)) {v : Value} (hv : v = .int .i64 (f' : Int)) : IsRing (w.setCell ⟨g, 2, none⟩ v) g s n xs f' m := by
  subst hv
  exact ⟨by rw [blkset h.own]; rfl, blkfar h.all h.ne.symm _, h.len, h.room, h.many, hf, h.ne⟩
theorem keeps {S : Nat → Prop} (h : IsRing w g s n xs f m) (hk : Keeps S w w') (hg : ¬ S g) (hs : ¬ S s) : IsRing w' g s n xs f m := ⟨hk.blk h.own hg, hk.blk h.all hs, h.len, h.room, h.many, h.from_, h.ne⟩
theorem wiped_ (n : Nat) : ∀ (o : Nat) (w : World) (xs : List Int), IsRing w g s n xs f m → ∀ k, o + k = n → IsRing (w.setCells s o (List.replicate k (.int .i64 0))) g s n (xs.take o ++ List.replicate k 0) f m := by
  intro o w xs h k
  induction k generalizing o w xs with
  | zero => intro hk; simp only [List.replicate, World.setCells]; rw [List.append_nil, List.take_of_length_le (by have := h.len; omega)]; exact h
  | succ k ih =>
    intro hk
    have := ih (o + 1) _ _ (h.put o 0) (by omega)
    rw [List.replicate_succ, List.replicate_succ, World.setCells]
    have e : List.take (o + 1) (xs.set o 0) ++ List.replicate k 0 = List.take o xs ++ 0 :: List.replicate k 0 := by
      rw [List.take_succ_eq_append_getElem (by have := h.len; simp; omega), List.take_set_of_le (Nat.le_refl o)]
      simp
    rw [e] at this
    exact this
theorem wiped (h : IsRing w g s n xs f m) : IsRing (w.setCells s 0 (List.replicate n (.int .i64 0))) g s n (List.replicate n 0) f m := by
  have := wiped_ n 0 w xs h n (by omega)
  simpa using this
end IsRing

set_option maxHeartbeats 400000 in
theorem ring_ok (g : Nat) (w : World) (c0 : w.cell? ⟨g, 0, none⟩ = some (.bool true)) :
    Calls Try.prog 42 #[.pointer (some ⟨g, 0, none⟩)] w fun e w' => e = .returned (.bool true) ∧ w = w' := by
  go_enter Try.func42, Try.ntmps42
  go_wp2
  go_ret
  exact ⟨rfl, rfl⟩

set_option maxHeartbeats 400000 in
theorem ring_place (g s n f i p : Nat) (w : World) (hn : 0 < n) (hn2 : n ≤ 1024) (hf2 : f < 1024) (hi2 : i ≤ 1024) (hp : p = (f + i) % n)
   (c1 : w.cell? ⟨g, 1, none⟩ = some (.slice (some ⟨s,0,none⟩) n n)) (c2 : w.cell? ⟨g, 2, none⟩ = some (.int .i64 f)) :
    Calls Try.prog 43 #[.pointer (some ⟨g, 0, none⟩), .int .i64 i] w fun e w' => e = .returned (.int .i64 p) ∧ ∃ m, w' = w.drewN m := by
  have hn0 : ¬ ((n : Int) = 0) := by omega
  have HP : Hid (p = (f + i) % n) := hp
  clear hp
  go_enter Try.func43, Try.ntmps43
  go_wp2
  go_quiet (fail)
  go_wp2
  go_ret
  exact ⟨by rw [HP.out]; simp, _, rfl⟩

set_option maxHeartbeats 400000 in
theorem ring_push_full (g s n f m : Nat) (xs : List Int) (x : Int) (w : World) (h : IsRing w g s n xs f m) (hm : m = n) :
    Calls Try.prog 13 #[.pointer (some ⟨g, 0, none⟩), .int .i64 x] w fun e w' => e = .returned (.int .i64 10) ∧ ∃ m, w' = w.drewN m := by
  have c0 := h.c0
  have c1 := h.c1
  have c3 := h.c3
  subst hm
  go_enter Try.func13, Try.ntmps13
  go_wp2_with (go_at_call 42; refine (ring_ok g _ c0).mono ?_; rintro e w' ⟨rfl, rfl⟩)
  go_quiet (fail)
  go_wp2
  go_ret
  exact ⟨rfl, _, rfl⟩

set_option maxHeartbeats 400000 in
theorem ring_push (g s n f m : Nat) (xs : List Int) (x : Int) (w : World) (h : IsRing w g s n xs f m) (hm : m < n) :
    Calls Try.prog 13 #[.pointer (some ⟨g, 0, none⟩), .int .i64 x] w fun e w' => e = .returned (.int .i64 0) ∧ IsRing w' g s n (xs.set ((f + m) % n) x) f (m + 1) ∧ Keeps (fun k => k = g ∨ k = s) w w' := by
  have c0 := h.c0
  have c1 := h.c1
  have c2 := h.c2
  have c3 := h.c3
  have hr := h.room
  have hne : (m == n) = false := by simp; omega
  have hne' : ((m : Int) == n) = false := by simp; omega
  have hf : f < n := by rcases h.from_ with h1 | ⟨_, h2⟩; exact h1; exact absurd h2 (by omega)
  obtain ⟨p, hp⟩ : ∃ p, p = (f + m) % n := ⟨_, rfl⟩
  have hp2 : p < n := by rw [hp]; exact Nat.mod_lt _ (by omega)
  have HP : Hid (p = (f + m) % n) := hp
  clear hp
  have cx := h.cx p hp2
  have fx := blkfrozen h.all p
  have f3 := blkfrozen h.own 3
  have hgs := h.ne
  go_enter Try.func13, Try.ntmps13
  go_wp2_with (go_at_call 42; refine (ring_ok g _ c0).mono ?_; rintro e w' ⟨rfl, rfl⟩)
  refine wp_qall (w0 := w) ⟨0, rfl⟩ (by kernel_rfl) (by kernel_rfl) ?_
  repeat go_big_quiet_step (fail)
  refine wpQuiet_nil (fun nq => ?_)
  go_wp2
  refine wp_qtail (w0 := w) 12 ⟨nq, rfl⟩ (by kernel_rfl) (by kernel_rfl) ?_
  simp only [List.take_succ_cons, List.take_zero, List.drop_succ_cons, List.drop_zero]
  repeat (go_big_quiet_step ((go_at_call 43; exact calls_q ((ring_place g s n f m p _ (by omega) (by omega) (by omega) (by omega) HP.out c1 c2)))))
  refine wpQuiet_nil (fun nr => ?_)
  go_wp2
  go_ret
  refine ⟨rfl, ?_, ?_⟩
  · rw [← HP.out]
    exact ((h.drewN nr).put p x).setMany (m + 1) (by omega) (by simp)
  · exact ((Keeps.refl _ w).drewN nr |>.setCell (.inl (.inr rfl)) _).setCell (.inl (.inl rfl)) _

set_option maxHeartbeats 400000 in
theorem ring_pop_empty (g s n f : Nat) (xs : List Int) (w : World) (h : IsRing w g s n xs f 0) :
    Calls Try.prog 11 #[.pointer (some ⟨g, 0, none⟩)] w fun e w' => e = .returned (.tuple #[.int .i64 0, .int .i64 11]) ∧ w = w' := by
  have c0 := h.c0
  have c3 := h.c3
  go_enter Try.func11, Try.ntmps11
  go_wp2_with (go_at_call 42; refine (ring_ok g _ c0).mono ?_; rintro e w' ⟨rfl, rfl⟩)
  go_ret2
  exact ⟨rfl, rfl⟩

set_option maxHeartbeats 400000 in
theorem ring_pop (g s n f m : Nat) (xs : List Int) (w : World) (h : IsRing w g s n xs f m) (hm : 0 < m) :
    Calls Try.prog 11 #[.pointer (some ⟨g, 0, none⟩)] w fun e w' => e = .returned (.tuple #[.int .i64 (xs.getD f 0), .int .i64 0]) ∧ IsRing w' g s n (xs.set f 0) ((f + 1) % n) (m - 1) ∧ Keeps (fun k => k = g ∨ k = s) w w' := by
  have c0 := h.c0
  have c1 := h.c1
  have c2 := h.c2
  have c3 := h.c3
  have hr := h.room
  have hmany := h.many
  have hne' : ((m : Int) == 0) = false := by simp; omega
  have hf : f < n := by rcases h.from_ with h1 | ⟨_, h2⟩; exact h1; exact absurd h2 (by omega)
  obtain ⟨p, hp⟩ : ∃ p, p = (f + 1) % n := ⟨_, rfl⟩
  have hp2 : p < n := by rw [hp]; exact Nat.mod_lt _ (by omega)
  have HP : Hid (p = (f + 1) % n) := hp
  clear hp
  have cx := h.cx f hf
  have fx := blkfrozen h.all f
  have f3 := blkfrozen h.own 3
  have f2 := blkfrozen h.own 2
  have hgs := h.ne
  have HH := Lib.hid h
  clear h
  go_enter Try.func11, Try.ntmps11
  go_wp2_with (go_at_call 42; refine (ring_ok g _ c0).mono ?_; rintro e w' ⟨rfl, rfl⟩)
  refine wp_qall (w0 := w) ⟨0, rfl⟩ (by kernel_rfl) (by kernel_rfl) ?_
  repeat go_big_quiet_step (fail)
  refine wpQuiet_nil (fun nq => ?_)
  go_wp2
  refine wp_qtail (w0 := w) 10 ⟨nq, rfl⟩ (by kernel_rfl) (by kernel_rfl) ?_
  simp only [List.take_succ_cons, List.take_zero, List.drop_succ_cons, List.drop_zero]
  repeat go_big_quiet_step (fail)
  refine wpQuiet_nil (fun nr => ?_)
  have h1 := (HH.out.drewN nr).put f 0
  have d1 := h1.c1
  have d2 := h1.c2
  have d3 := h1.c3
  go_wp2_with (go_at_call 43; refine (ring_place g s n f 1 p _ (by omega) (by omega) (by omega) (by omega) HP.out d1 d2).mono ?_; rintro e w' ⟨rfl, nz, rfl⟩)
  go_ret2
  refine ⟨by simp, ?_, ?_⟩
  · rw [← HP.out]
    exact ((h1.drewN nz).setFrom p (.inl hp2) rfl).setMany (m - 1) (by omega) (by congr 1; omega)
  · exact ((((Keeps.refl _ w).drewN nr |>.setCell (.inl (.inr rfl)) _).drewN nz).setCell (.inl (.inl rfl)) _).setCell (.inl (.inl rfl)) _

set_option maxHeartbeats 400000 in
theorem ring_len (g s n f m : Nat) (xs : List Int) (w : World) (h : IsRing w g s n xs f m) :
    Calls Try.prog 19 #[.pointer (some ⟨g, 0, none⟩)] w fun e w' => e = .returned (.int .i64 m) ∧ w = w' := by
  have c0 := h.c0
  have c3 := h.c3
  clear h
  go_enter Try.func19, Try.ntmps19
  go_wp2_with (go_at_call 42; refine (ring_ok g _ c0).mono ?_; rintro e w' ⟨rfl, rfl⟩)
  go_ret
  exact ⟨rfl, rfl⟩

set_option maxHeartbeats 400000 in
theorem ring_room (g s n f m : Nat) (xs : List Int) (w : World) (h : IsRing w g s n xs f m) :
    Calls Try.prog 20 #[.pointer (some ⟨g, 0, none⟩)] w fun e w' => e = .returned (.int .i64 n) ∧ w = w' := by
  have c0 := h.c0
  have c1 := h.c1
  clear h
  go_enter Try.func20, Try.ntmps20
  go_wp2_with (go_at_call 42; refine (ring_ok g _ c0).mono ?_; rintro e w' ⟨rfl, rfl⟩)
  go_ret
  exact ⟨rfl, rfl⟩

set_option maxHeartbeats 400000 in
theorem ring_at_bad (g s n f m : Nat) (xs : List Int) (i : Int) (w : World) (h : IsRing w g s n xs f m) (hi : i < 0 ∨ (m : Int) ≤ i) :
    Calls Try.prog 15 #[.pointer (some ⟨g, 0, none⟩), .int .i64 i] w fun e w' => e = .returned (.tuple #[.int .i64 0, .int .i64 8]) ∧ w = w' := by
  have c0 := h.c0
  have c3 := h.c3
  clear h
  by_cases h0 : i < 0
  all_goals
    go_enter Try.func15, Try.ntmps15
    go_wp2_with (go_at_call 42; refine (ring_ok g _ c0).mono ?_; rintro e w' ⟨rfl, rfl⟩)
    go_ret2
    exact ⟨rfl, rfl⟩

set_option maxHeartbeats 400000 in
theorem ring_at (g s n f m i : Nat) (xs : List Int) (w : World) (h : IsRing w g s n xs f m) (hi : i < m) :
    Calls Try.prog 15 #[.pointer (some ⟨g, 0, none⟩), .int .i64 i] w fun e w' => e = .returned (.tuple #[.int .i64 (xs.getD ((f + i) % n) 0), .int .i64 0]) ∧ ∃ k, w' = w.drewN k := by
  have c0 := h.c0
  have c1 := h.c1
  have c2 := h.c2
  have c3 := h.c3
  have hr := h.room
  have hmany := h.many
  have hf : f < n := by rcases h.from_ with h1 | ⟨_, h2⟩; exact h1; exact absurd h2 (by omega)
  obtain ⟨p, hp⟩ : ∃ p, p = (f + i) % n := ⟨_, rfl⟩
  have hp2 : p < n := by rw [hp]; exact Nat.mod_lt _ (by omega)
  have cx := h.cx p hp2
  have HP := Lib.hid hp
  clear hp h
  have hi0 : ¬ ((i : Int) < 0) := by omega
  have hi1 : ¬ ((m : Int) ≤ i) := by omega
  go_enter Try.func15, Try.ntmps15
  go_wp2_with (go_at_call 42; refine (ring_ok g _ c0).mono ?_; rintro e w' ⟨rfl, rfl⟩)
  refine wp_qall (w0 := w) ⟨0, rfl⟩ (by kernel_rfl) (by kernel_rfl) ?_
  repeat (go_big_quiet_step ((go_at_call 43; exact calls_q ((ring_place g s n f i p _ (by omega) (by omega) (by omega) (by omega) HP.out c1 c2)))))
  refine wpQuiet_nil (fun nq => ?_)
  go_wp2
  go_ret2
  exact ⟨by rw [← HP.out]; simp, _, rfl⟩

theorem Try.zero3 (w : World) : (zeroValue 3).run Try.prog w = .ok (.int .i64 0) w := by kernel_rfl

set_option maxHeartbeats 400000 in
theorem ring_clear (g s n f m : Nat) (xs : List Int) (w : World) (h : IsRing w g s n xs f m) :
    Calls Try.prog 10 #[.pointer (some ⟨g, 0, none⟩)] w fun e w' => e = .returned (.tuple #[]) ∧ IsRing w' g s n (List.replicate n 0) 0 0 ∧ Keeps (fun k => k = g ∨ k = s) w w' := by
  have c0 := h.c0
  have c1 := h.c1
  have c2 := h.c2
  have c3 := h.c3
  have f3 := blkfrozen h.own 3
  have f2 := blkfrozen h.own 2
  by_cases hn : n = 0
  · subst hn
    have hcl : ∀ ty, (Builtin.clear_ #[28] ty #[.slice (some ⟨s, 0, none⟩) 0 0]).run Try.prog w = .ok (.tuple #[]) w := fun ty => by
      simp [Builtin.clear_, run_underlying Try.underlying28]
    have hx : xs = [] := List.eq_nil_of_length_eq_zero h.len
    subst hx
    have HH := Lib.hid h
    clear h
    go_enter Try.func10, Try.ntmps10
    go_wp2_with (go_at_call 42; refine (ring_ok g _ c0).mono ?_; rintro e w' ⟨rfl, rfl⟩)
    go_end0
    exact ⟨rfl, (HH.out.setFrom 0 (.inr ⟨rfl, rfl⟩) rfl).setMany 0 (by omega) rfl, ((Keeps.refl _ w).setCell (.inl (.inl rfl)) _).setCell (.inl (.inl rfl)) _⟩
  · have hcl : ∀ ty, (Builtin.clear_ #[28] ty #[.slice (some ⟨s, 0, none⟩) n n]).run Try.prog w = .ok (.tuple #[]) (w.setCells s 0 (List.replicate n (.int .i64 0))) :=
      fun ty => Lib.run_clear_slice w 28 3 ty (.int .i64 0) Try.underlying28 Try.zero3 rfl rfl s 0 n n (by omega) (fun j hj => by rw [Nat.zero_add, h.cx j hj]; rfl) (fun j hj => blkfrozen h.all _)
    have hk : Keeps (fun k => k = g ∨ k = s) w (w.setCells s 0 (List.replicate n (.int .i64 0))) := keeps_setCells _ _ _ _ (fun k => k = g ∨ k = s) (.inr rfl)
    have hr : IsRing (w.setCells s 0 (List.replicate n (.int .i64 0))) g s n (List.replicate n 0) f m := h.wiped
    obtain ⟨w1, hw1⟩ : ∃ w1, w1 = w.setCells s 0 (List.replicate n (.int .i64 0)) := ⟨_, rfl⟩
    rw [← hw1] at hcl hk hr
    clear hw1 h
    have d2 := hr.c2
    have d3 := hr.c3
    have e3 := blkfrozen hr.own 3
    have e2 := blkfrozen hr.own 2
    go_enter Try.func10, Try.ntmps10
    go_wp2_with (go_at_call 42; refine (ring_ok g _ c0).mono ?_; rintro e w' ⟨rfl, rfl⟩)
    go_end0
    exact ⟨rfl, (hr.setFrom 0 (.inl (by omega)) rfl).setMany 0 (by omega) rfl, (hk.setCell (.inl (.inl rfl)) _).setCell (.inl (.inl rfl)) _⟩

theorem Try.info3 : (Try.prog.info? 3).map (fun i => (i.zero, i.size, i.bytes)) = some (some (.int .i64 0), 1, 8) := by kernel_rfl

set_option maxHeartbeats 400000 in
theorem ring_new_bad (n : Int) (w : World) (h : n < 0 ∨ 1024 < n) :
    Calls Try.prog 8 #[.int .i64 n] w fun e w' => e = .returned (.tuple #[.pointer none, .int .i64 1]) ∧ w = w' := by
  by_cases h0 : n < 0
  all_goals
    go_enter Try.func8, Try.ntmps8
    go_wp2
    go_ret2
    exact ⟨rfl, rfl⟩

set_option maxHeartbeats 400000 in
theorem ring_new (n : Nat) (w : World) (h : n ≤ 1024) :
    Calls Try.prog 8 #[.int .i64 n] w fun e w' => e = .returned (.tuple #[.pointer (some ⟨w.heap.size + 1, 0, none⟩), .int .i64 0]) ∧ IsRing w' (w.heap.size + 1) w.heap.size n (List.replicate n 0) 0 0 ∧ Keeps (fun _ => False) w w' := by
  have h0 : ¬ ((n : Int) < 0) := by omega
  have h1 : ¬ (1024 < (n : Int)) := by omega
  go_enter Try.func8, Try.ntmps8
  have hmk := run_make_row' (P := Try.prog) 28 3 (.int .i64 0) 8 Try.underlying28 Try.info3 rfl .i64 .i64 n (by omega) (by omega)
  have ecs : madeCells #[Value.int .i64 0] n = ((List.replicate n (0 : Int)).map (Value.int .i64)).toArray := by
    apply Array.ext'
    simp [madeCells]
    apply List.ext_getElem
    · simp
    · intro i h1 h2; simp [Nat.mod_one]
  rw [ecs] at hmk
  clear ecs
  go_wp2
  go_ret2
  refine ⟨by simp, ⟨?_, ?_, by simp, h, by omega, by omega, by omega⟩, ((Keeps.refl _ w).alloc _).alloc _⟩
  · have := heap_alloc_new (w.alloc (Obj.cells ((List.replicate n (0 : Int)).map (Value.int .i64)).toArray 3)) (.cells #[.bool true, .slice (some ⟨w.heap.size, 0, none⟩) n n, .int .i64 0, .int .i64 0] 89)
    simpa using this
  · have := blkalloc (heap_alloc_new w (.cells (Array.replicate n (Value.int .i64 0)) 3)) (.cells #[.bool true, .slice (some ⟨w.heap.size, 0, none⟩) n n, .int .i64 0, .int .i64 0] 89)
    simpa using this
end Go.Proofs.Ytlfccifibhcacaa
