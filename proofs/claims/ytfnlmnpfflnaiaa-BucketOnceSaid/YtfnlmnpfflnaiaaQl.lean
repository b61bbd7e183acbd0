/- A pool of queues (becket/queue), line by line: its methods over lists of nodes. -/
import Derived.Test.YtfnlmnpfflnaiaaQm
import Derived.Deep.RegionHeld3
namespace Go.Proofs.Ytfnlmnpfflnaiaa
open Go.RowKit
set_option linter.unusedVariables false
set_option linter.unusedSimpArgs false

def PoolI (w : World) (g N L R Q cap : Nat) (xs : Nat → Int) (I : Nat → List Nat) (T : Nat) : Prop :=
  ∃ nx F La M, IsPool w g N L R Q cap xs nx F La M ∧ Lines R Q nx F La M I ∧ sumI I Q = T ∧ T ≤ 1024

theorem LinePtr.le {g L Q k lb lo : Nat} (h : LinePtr g L Q k lb lo) : k ≤ Q := by
  rcases h with ⟨h, _⟩ | ⟨q, h1, h2, _⟩ <;> omega

theorem PoolI.keeps {w w' : World} {g N L R Q cap T : Nat} {xs : Nat → Int} {I : Nat → List Nat} {S : Nat → Prop} (h : PoolI w g N L R Q cap xs I T) (hk : Keeps S w w') (hg : ¬ S g) (hN : ¬ S N) (hL : ¬ S L) : PoolI w' g N L R Q cap xs I T := by
  obtain ⟨nx, F, La, M, h1, h2⟩ := h
  exact ⟨nx, F, La, M, h1.keeps hk hg hN hL, h2⟩

theorem poolI_take0 (g N L R Q cap k lb lo i T : Nat) (is : List Nat) (xs : Nat → Int) (I : Nat → List Nat) (w : World) (h : PoolI w g N L R Q cap xs I T) (hp : LinePtr g L Q k lb lo) (hI : I k = i :: is) :
    Calls Try.prog 29 #[.pointer (some ⟨g, 0, none⟩), .pointer (some ⟨lb, lo, none⟩), .int .i64 (-1)] w fun e w' => e = .returned (.int .i64 i) ∧
      PoolI w' g N L R Q cap xs (updL I k is) (T - 1) ∧ Keeps (PB g N L) w w' ∧ i < R ∧ 0 < T ∧ ∀ k', k' ≤ Q → i ∉ updL I k is k' := by
  obtain ⟨nx, F, La, M, h1, h2, h3, h4⟩ := h
  obtain ⟨t1, t2, t3, t4, t5⟩ := h2.take0 hp.le hI
  have hs := sumI_upd I k is Q hp.le
  have hle := le_sumI I Q k hp.le
  rw [hI] at hs hle
  simp only [List.length_cons] at hs hle
  exact (pool_take0 g N L R Q cap k lb lo i is.length (nx i) xs nx F La M w h1 hp t2 (by omega) t3 t1 rfl).mono fun e w' ⟨a1, a2, a3⟩ => ⟨a1, ⟨_, _, _, _, a2, t4, by omega, by omega⟩, a3, t2, by omega, t5⟩

theorem poolI_take1 (g N L R Q cap k lb lo a i T : Nat) (ps bs : List Nat) (xs : Nat → Int) (I : Nat → List Nat) (w : World) (h : PoolI w g N L R Q cap xs I T) (hp : LinePtr g L Q k lb lo) (hI : I k = ps ++ a :: i :: bs) :
    Calls Try.prog 29 #[.pointer (some ⟨g, 0, none⟩), .pointer (some ⟨lb, lo, none⟩), .int .i64 a] w fun e w' => e = .returned (.int .i64 i) ∧
      PoolI w' g N L R Q cap xs (updL I k (ps ++ a :: bs)) (T - 1) ∧ Keeps (PB g N L) w w' ∧ i < R ∧ 0 < T ∧ ∀ k', k' ≤ Q → i ∉ updL I k (ps ++ a :: bs) k' := by
  obtain ⟨nx, F, La, M, h1, h2, h3, h4⟩ := h
  obtain ⟨t1, t2, t3, t4, t5, t6, t7⟩ := h2.take1 hp.le hI
  have hs := sumI_upd I k (ps ++ a :: bs) Q hp.le
  have hle := le_sumI I Q k hp.le
  rw [hI] at hs hle
  simp only [List.length_append, List.length_cons] at hs hle
  exact (pool_take1 g N L R Q cap k lb lo a i (ps.length + 1 + bs.length) (nx i) xs nx F La M w h1 hp t2 t3 t4 (by omega) t5 t1 rfl).mono fun e w' ⟨a1, a2, a3⟩ => ⟨a1, ⟨_, _, _, _, a2, t6, by omega, by omega⟩, a3, t3, by omega, t7⟩

theorem poolI_hang (g N L R Q cap k lb lo i T : Nat) (xs : Nat → Int) (I : Nat → List Nat) (w : World) (h : PoolI w g N L R Q cap xs I T) (hp : LinePtr g L Q k lb lo) (hi : i < R) (hout : ∀ k', k' ≤ Q → i ∉ I k') (hT : T < 1024) :
    Calls Try.prog 27 #[.pointer (some ⟨g, 0, none⟩), .pointer (some ⟨lb, lo, none⟩), .int .i64 i] w fun e w' => e = .returned (.tuple #[]) ∧
      PoolI w' g N L R Q cap xs (updL I k (I k ++ [i])) (T + 1) ∧ Keeps (PB g N L) w w' := by
  obtain ⟨nx, F, La, M, h1, h2, h3, h4⟩ := h
  have hs := sumI_upd I k (I k ++ [i]) Q hp.le
  have hle := le_sumI I Q k hp.le
  simp only [List.length_append, List.length_cons, List.length_nil] at hs
  rcases List.eq_nil_or_concat (I k) with hI | ⟨ps, l, hI⟩
  · exact (pool_hang0 g N L R Q cap k lb lo i xs nx F La M w h1 hp hi (by rw [h2.many k hp.le, hI]; rfl)).mono fun e w' ⟨a1, a2, a3⟩ => ⟨a1, ⟨_, _, _, _, a2, h2.hang0 hp.le hi hout hI, by omega, by omega⟩, a3⟩
  · have hlen : (I k).length = ps.length + 1 := by rw [hI]; simp
    have hl : l < R := h2.lt k hp.le l (by rw [hI]; simp)
    rw [List.concat_eq_append] at hI
    exact (pool_hang1 g N L R Q cap k lb lo i l ps.length xs nx F La M w h1 hp hi hl (by omega) (by rw [h2.many k hp.le, hlen]; simp) (by rw [h2.last k hp.le, hI, lastI_snoc])).mono fun e w' ⟨a1, a2, a3⟩ =>
      ⟨a1, ⟨_, _, _, _, a2, h2.hang1 hp.le hi hout hI, by omega, by omega⟩, a3⟩

theorem poolI_queue (g N L R Q cap q T : Nat) (a : Int) (xs : Nat → Int) (I : Nat → List Nat) (w : World) (h : PoolI w g N L R Q cap xs I T) (hq : q < Q) (ha : a = q) :
    Calls Try.prog 30 #[.pointer (some ⟨g, 0, none⟩), .int .i64 a] w fun e w' => e = .returned (.tuple #[.pointer (some ⟨L, q * 3, none⟩), .int .i64 0]) ∧ w = w' := by
  obtain ⟨nx, F, La, M, h1, h2⟩ := h
  subst ha
  exact pool_queue g N L R Q cap q xs nx F La M w h1 hq
theorem poolI_queue_bad (g N L R Q cap T : Nat) (q : Int) (xs : Nat → Int) (I : Nat → List Nat) (w : World) (h : PoolI w g N L R Q cap xs I T) (hq : q < 0 ∨ (Q : Int) ≤ q) :
    Calls Try.prog 30 #[.pointer (some ⟨g, 0, none⟩), .int .i64 q] w fun e w' => e = .returned (.tuple #[.pointer none, .int .i64 8]) ∧ w = w' := by
  obtain ⟨nx, F, La, M, h1, h2⟩ := h
  exact pool_queue_bad g N L R Q cap q xs nx F La M w h1 hq
theorem PoolI.many {w : World} {g N L R Q cap T k lb lo : Nat} {xs : Nat → Int} {I : Nat → List Nat} (h : PoolI w g N L R Q cap xs I T) (hp : LinePtr g L Q k lb lo) : w.cell? ⟨lb, lo + 2, none⟩ = some (.int .i64 (I k).length) := by
  obtain ⟨nx, F, La, M, h1, h2, _⟩ := h
  rw [← h2.many k hp.le]; exact (h1.ln k lb lo hp).2.2
theorem PoolI.first {w : World} {g N L R Q cap T k lb lo : Nat} {xs : Nat → Int} {I : Nat → List Nat} (h : PoolI w g N L R Q cap xs I T) (hp : LinePtr g L Q k lb lo) : w.cell? ⟨lb, lo, none⟩ = some (.int .i64 (match I k with | [] => -1 | i :: _ => (i : Int))) := by
  obtain ⟨nx, F, La, M, h1, h2, _⟩ := h
  have hc := h2.chain k hp.le
  rw [(h1.ln k lb lo hp).1]
  cases hI : I k with
  | nil => rw [hI] at hc; rw [hc]
  | cons i is => rw [hI] at hc; rw [hc.1]
theorem PoolI.node {w : World} {g N L R Q cap T i : Nat} {xs : Nat → Int} {I : Nat → List Nat} (h : PoolI w g N L R Q cap xs I T) (hi : i < R) : w.cell? ⟨g, 0, none⟩ = some (.slice (some ⟨N, 0, none⟩) R R) ∧ w.cell? ⟨N, i * 2, none⟩ = some (.int .i64 (xs i)) ∧ w.frozen? ⟨N, i * 2, none⟩ = false := by
  obtain ⟨nx, F, La, M, h1, h2, _⟩ := h
  exact ⟨h1.c0, (h1.nd i hi).1, h1.fN _⟩
theorem PoolI.setX {w : World} {g N L R Q cap T i : Nat} {xs : Nat → Int} {I : Nat → List Nat} (h : PoolI w g N L R Q cap xs I T) (hi : i < R) (x : Int) : PoolI (w.setCell ⟨N, i * 2, none⟩ (.int .i64 x)) g N L R Q cap (upd xs i x) I T := by
  obtain ⟨nx, F, La, M, h1, h2⟩ := h
  exact ⟨nx, F, La, M, h1.setX i x hi, h2⟩
theorem PoolI.lt {w : World} {g N L R Q cap T k : Nat} {xs : Nat → Int} {I : Nat → List Nat} (h : PoolI w g N L R Q cap xs I T) (hk : k ≤ Q) : ∀ j ∈ I k, j < R := by
  obtain ⟨nx, F, La, M, h1, h2, _⟩ := h
  exact h2.lt k hk
theorem PoolI.drewN {w : World} {g N L R Q cap T : Nat} {xs : Nat → Int} {I : Nat → List Nat} (h : PoolI w g N L R Q cap xs I T) (n : Nat) : PoolI (w.drewN n) g N L R Q cap xs I T := h.keeps (S := fun _ => False) ((Keeps.refl _ w).drewN n) (fun x => x) (fun x => x) (fun x => x)

/-! ### The methods -/

set_option maxHeartbeats 800000 in
theorem poolI_push_bad (g N L R Q cap T : Nat) (q x : Int) (xs : Nat → Int) (I : Nat → List Nat) (w : World) (h : PoolI w g N L R Q cap xs I T) (hq : q < 0 ∨ (Q : Int) ≤ q) :
    Calls Try.prog 24 #[.pointer (some ⟨g, 0, none⟩), .int .i64 q, .int .i64 x] w fun e w' => e = .returned (.int .i64 8) ∧ w = w' := by
  go_enter Try.func24, Try.ntmps24
  go_wp2_with (go_at_call 30; refine (poolI_queue_bad g N L R Q cap T q xs I _ h hq).mono ?_; rintro e w' ⟨rfl, rfl⟩)
  go_ret
  exact ⟨rfl, rfl⟩

set_option maxHeartbeats 800000 in
theorem poolI_push_full (g N L R Q cap T q : Nat) (x : Int) (xs : Nat → Int) (I : Nat → List Nat) (w : World) (h : PoolI w g N L R Q cap xs I T) (hq : q < Q) (hf : I 0 = []) :
    Calls Try.prog 24 #[.pointer (some ⟨g, 0, none⟩), .int .i64 q, .int .i64 x] w fun e w' => e = .returned (.int .i64 10) ∧ w = w' := by
  have hm := h.many (.inl ⟨rfl, rfl, rfl⟩)
  rw [hf] at hm
  go_enter Try.func24, Try.ntmps24
  go_wp2_with (go_at_call 30; refine (poolI_queue g N L R Q cap q T _ xs I _ h hq rfl).mono ?_; rintro e w' ⟨rfl, rfl⟩)
  go_ret
  exact ⟨rfl, rfl⟩

set_option maxHeartbeats 800000 in
theorem poolI_push (g N L R Q cap T q i : Nat) (is : List Nat) (x : Int) (xs : Nat → Int) (I : Nat → List Nat) (w : World) (h : PoolI w g N L R Q cap xs I T) (hq : q < Q) (hf : I 0 = i :: is) :
    Calls Try.prog 24 #[.pointer (some ⟨g, 0, none⟩), .int .i64 q, .int .i64 x] w fun e w' => e = .returned (.int .i64 0) ∧
      PoolI w' g N L R Q cap (upd xs i x) (updL (updL I 0 is) (q + 1) (I (q + 1) ++ [i])) T ∧ Keeps (PB g N L) w w' := by
  have hp0 : LinePtr g L Q 0 g 2 := .inl ⟨rfl, rfl, rfl⟩
  have hpq : LinePtr g L Q (q + 1) L (q * 3) := .inr ⟨q, hq, rfl, rfl, rfl⟩
  have hm := h.many hp0
  rw [hf] at hm
  have hz : (((i :: is).length : Int) == 0) = false := by simp; omega
  have hT : T ≤ 1024 := by obtain ⟨_, _, _, _, _, _, _, h⟩ := h; exact h
  go_enter Try.func24, Try.ntmps24
  go_wp2_with fail
  refine (poolI_queue g N L R Q cap q T _ xs I _ h hq rfl).mono ?_
  rintro e w' ⟨rfl, rfl⟩
  go_wp2_with fail
  refine (poolI_take0 g N L R Q cap 0 g 2 i T is xs I _ h hp0 hf).mono ?_
  rintro e w1 ⟨rfl, h1, k1, hi, hT0, hout⟩
  obtain ⟨n0, n1, n2⟩ := h1.node hi
  have h2 := h1.setX hi x
  go_wp2_with fail
  refine (poolI_hang g N L R Q cap (q + 1) L (q * 3) i (T - 1) _ _ _ h2 hpq hi hout (by omega)).mono ?_
  rintro e w3 ⟨rfl, h3, k3⟩
  go_wp2
  go_ret
  rw [updL_ne _ _ (by omega), show T - 1 + 1 = T by omega] at h3
  exact ⟨rfl, h3, (k1.setCell (.inl (.inr (.inl rfl))) _).trans' k3⟩

end Go.Proofs.Ytfnlmnpfflnaiaa
