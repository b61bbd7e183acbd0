/- A pool of queues (becket/queue): its methods that read: First, Len, List; and Pop. -/
import Derived.Test.YtfnlmnpfflnaiaaQl
import Derived.Test.YtfnlmnpfflnaiaaKr
import Derived.Deep.LoopGhost
namespace Go.Proofs.Ytfnlmnpfflnaiaa
open Go.RowKit
set_option linter.unusedVariables false
set_option linter.unusedSimpArgs false

theorem PoolI.c1 {w : World} {g N L R Q cap T : Nat} {xs : Nat → Int} {I : Nat → List Nat} (h : PoolI w g N L R Q cap xs I T) : w.cell? ⟨g, 1, none⟩ = some (.slice (some ⟨L, 0, none⟩) Q cap) := by
  obtain ⟨_, _, _, _, h1, _⟩ := h; exact h1.c1

set_option maxHeartbeats 800000 in
theorem poolI_first_bad (g N L R Q cap T : Nat) (q : Int) (xs : Nat → Int) (I : Nat → List Nat) (w : World) (h : PoolI w g N L R Q cap xs I T) (hq : q < 0 ∨ (Q : Int) ≤ q) :
    Calls Try.prog 28 #[.pointer (some ⟨g, 0, none⟩), .int .i64 q] w fun e w' => e = .returned (.tuple #[.int .i64 0, .int .i64 8]) ∧ w = w' := by
  go_enter Try.func28, Try.ntmps28
  go_wp2_with (go_at_call 30; refine (poolI_queue_bad g N L R Q cap T q xs I _ h hq).mono ?_; rintro e w' ⟨rfl, rfl⟩)
  go_ret2
  exact ⟨rfl, rfl⟩

set_option maxHeartbeats 800000 in
theorem poolI_first_empty (g N L R Q cap T q : Nat) (xs : Nat → Int) (I : Nat → List Nat) (w : World) (h : PoolI w g N L R Q cap xs I T) (hq : q < Q) (hf : I (q + 1) = []) :
    Calls Try.prog 28 #[.pointer (some ⟨g, 0, none⟩), .int .i64 q] w fun e w' => e = .returned (.tuple #[.int .i64 0, .int .i64 11]) ∧ w = w' := by
  have hm := h.many (k := q + 1) (.inr ⟨q, hq, rfl, rfl, rfl⟩)
  rw [hf] at hm
  go_enter Try.func28, Try.ntmps28
  go_wp2_with (go_at_call 30; refine (poolI_queue g N L R Q cap q T _ xs I _ h hq rfl).mono ?_; rintro e w' ⟨rfl, rfl⟩)
  go_ret2
  exact ⟨rfl, rfl⟩

set_option maxHeartbeats 800000 in
theorem poolI_first (g N L R Q cap T q i : Nat) (is : List Nat) (xs : Nat → Int) (I : Nat → List Nat) (w : World) (h : PoolI w g N L R Q cap xs I T) (hq : q < Q) (hf : I (q + 1) = i :: is) :
    Calls Try.prog 28 #[.pointer (some ⟨g, 0, none⟩), .int .i64 q] w fun e w' => e = .returned (.tuple #[.int .i64 (xs i), .int .i64 0]) ∧ ∃ k, w' = w.drewN k := by
  have hpq : LinePtr g L Q (q + 1) L (q * 3) := .inr ⟨q, hq, rfl, rfl, rfl⟩
  have hm := h.many hpq
  have hfi := h.first hpq
  have hi := h.lt hpq.le i (by rw [hf]; simp)
  rw [hf] at hm hfi
  simp only at hfi
  obtain ⟨n0, n1, n2⟩ := h.node hi
  have hz : (((i :: is).length : Int) == 0) = false := by simp; omega
  go_enter Try.func28, Try.ntmps28
  go_wp2_with (go_at_call 30; refine (poolI_queue g N L R Q cap q T _ xs I _ h hq rfl).mono ?_; rintro e w' ⟨rfl, rfl⟩)
  refine wp_qall (w0 := w) ⟨0, rfl⟩ (by kernel_rfl) (by kernel_rfl) ?_
  repeat go_big_quiet_step (fail)
  refine wpQuiet_nil (fun nz => ?_)
  go_wp2
  go_ret2
  exact ⟨rfl, _, rfl⟩

set_option maxHeartbeats 800000 in
theorem poolI_pop_bad (g N L R Q cap T : Nat) (q : Int) (xs : Nat → Int) (I : Nat → List Nat) (w : World) (h : PoolI w g N L R Q cap xs I T) (hq : q < 0 ∨ (Q : Int) ≤ q) :
    Calls Try.prog 22 #[.pointer (some ⟨g, 0, none⟩), .int .i64 q] w fun e w' => e = .returned (.tuple #[.int .i64 0, .int .i64 8]) ∧ w = w' := by
  go_enter Try.func22, Try.ntmps22
  go_wp2_with (go_at_call 28; refine (poolI_first_bad g N L R Q cap T q xs I _ h hq).mono ?_; rintro e w' ⟨rfl, rfl⟩)
  go_ret2
  exact ⟨rfl, rfl⟩

set_option maxHeartbeats 800000 in
theorem poolI_pop_empty (g N L R Q cap T q : Nat) (xs : Nat → Int) (I : Nat → List Nat) (w : World) (h : PoolI w g N L R Q cap xs I T) (hq : q < Q) (hf : I (q + 1) = []) :
    Calls Try.prog 22 #[.pointer (some ⟨g, 0, none⟩), .int .i64 q] w fun e w' => e = .returned (.tuple #[.int .i64 0, .int .i64 11]) ∧ w = w' := by
  go_enter Try.func22, Try.ntmps22
  go_wp2_with (go_at_call 28; refine (poolI_first_empty g N L R Q cap T q xs I _ h hq hf).mono ?_; rintro e w' ⟨rfl, rfl⟩)
  go_ret2
  exact ⟨rfl, rfl⟩

set_option maxHeartbeats 800000 in
theorem poolI_pop (g N L R Q cap T q i : Nat) (is : List Nat) (xs : Nat → Int) (I : Nat → List Nat) (w : World) (h : PoolI w g N L R Q cap xs I T) (hq : q < Q) (hf : I (q + 1) = i :: is) :
    Calls Try.prog 22 #[.pointer (some ⟨g, 0, none⟩), .int .i64 q] w fun e w' => e = .returned (.tuple #[.int .i64 (xs i), .int .i64 0]) ∧
      PoolI w' g N L R Q cap xs (updL (updL I (q + 1) is) 0 (I 0 ++ [i])) T ∧ Keeps (PB g N L) w w' := by
  have hp0 : LinePtr g L Q 0 g 2 := .inl ⟨rfl, rfl, rfl⟩
  have hpq : LinePtr g L Q (q + 1) L (q * 3) := .inr ⟨q, hq, rfl, rfl, rfl⟩
  have hT : T ≤ 1024 := by obtain ⟨_, _, _, _, _, _, _, h⟩ := h; exact h
  have c1 : w.cell? ⟨g, 1, none⟩ = some (.slice (some ⟨L, 0, none⟩) Q cap) := by obtain ⟨_, _, _, _, h1, _⟩ := h; exact h1.c1
  go_enter Try.func22, Try.ntmps22
  go_wp2_with (go_at_call 28; refine (poolI_first g N L R Q cap T q i is xs I _ h hq hf).mono ?_; rintro e w' ⟨rfl, nq, rfl⟩)
  have hD := h.drewN (nq + 1)
  have cD : (w.drewN (nq + 1)).cell? ⟨g, 1, none⟩ = some (.slice (some ⟨L, 0, none⟩) Q cap) := c1
  go_region_held3 (fun W => W.cell? ⟨g, 1, none⟩ = some (.slice (some ⟨L, 0, none⟩) Q cap)) (first | exact c13 | exact c11 | exact cD)
    (first | (go_at_call 29; refine (poolI_take0 g N L R Q cap (q + 1) L (q * 3) i T is xs I _ hD hpq hf).mono ?_; rintro e w1 ⟨rfl, h1, k1, hi, hT0, hout⟩; have c11 := h1.c1)
           | (go_at_call 27; refine (poolI_hang g N L R Q cap 0 g 2 i (T - 1) _ _ _ h1 hp0 hi hout (by omega)).mono ?_; rintro e w3 ⟨rfl, h3, k3⟩; have c13 := h3.c1))
  go_wp2
  go_ret2
  rw [updL_ne _ _ (by omega), show T - 1 + 1 = T by omega] at h3
  exact ⟨rfl, h3, ((Keeps.refl _ w).drewN (nq + 1)).trans' (k1.trans' k3)⟩

set_option maxHeartbeats 800000 in
theorem poolI_list_bad (g N L R Q cap T : Nat) (q : Int) (xs : Nat → Int) (I : Nat → List Nat) (w : World) (h : PoolI w g N L R Q cap xs I T) (hq : q < 0 ∨ (Q : Int) ≤ q) :
    Calls Try.prog 26 #[.pointer (some ⟨g, 0, none⟩), .int .i64 q] w fun e w' => e = .returned (.slice none 0 0) ∧ w = w' := by
  go_enter Try.func26, Try.ntmps26
  go_wp2_with (go_at_call 30; refine (poolI_queue_bad g N L R Q cap T q xs I _ h hq).mono ?_; rintro e w' ⟨rfl, rfl⟩)
  go_ret
  exact ⟨rfl, rfl⟩

def headI : List Nat → Int
  | [] => -1
  | i :: _ => (i : Int)

theorem Try.info3' : (Try.prog.info? 3).map (fun i => (i.zero, i.size, i.bytes)) = some (some (.int .i64 0), 1, 8) := by kernel_rfl

theorem PoolI.next {w : World} {g N L R Q cap T i k : Nat} {ps is : List Nat} {xs : Nat → Int} {I : Nat → List Nat} (h : PoolI w g N L R Q cap xs I T) (hk : k ≤ Q) (hI : I k = ps ++ i :: is) : w.cell? ⟨N, i * 2 + 1, none⟩ = some (.int .i64 (headI is)) := by
  obtain ⟨nx, F, La, M, h1, h2, _⟩ := h
  have hc := h2.chain k hk
  have hi := h2.lt k hk i (by rw [hI]; simp)
  rw [hI] at hc
  have hr := hc.rest
  rw [(h1.nd i hi).2]
  cases is with
  | nil => rw [show nx i = -1 from hr]; rfl
  | cons b bs => rw [show nx i = (b : Int) from hr.1]; rfl

set_option maxHeartbeats 1600000 in
theorem poolI_list (g N L R Q cap T q : Nat) (xs : Nat → Int) (I : Nat → List Nat) (w : World) (h : PoolI w g N L R Q cap xs I T) (hq : q < Q) :
    Calls Try.prog 26 #[.pointer (some ⟨g, 0, none⟩), .int .i64 q] w fun e w' => ∃ v, e = .returned v ∧ Rds (fun b => w.heap.size ≤ b) w' v 1 (I (q + 1)).length ((I (q + 1)).map (fun i => Value.int .i64 (xs i))) ∧ Keeps (fun _ => False) w w' := by
  have hpq : LinePtr g L Q (q + 1) L (q * 3) := .inr ⟨q, hq, rfl, rfl, rfl⟩
  have hfi := h.first hpq
  have hT : T ≤ 1024 := by obtain ⟨_, _, _, _, _, _, _, h⟩ := h; exact h
  have hlen : (I (q + 1)).length ≤ 1024 := by
    obtain ⟨_, _, _, _, _, _, h3, _⟩ := h
    have := le_sumI I Q (q + 1) (by omega)
    omega
  have hfi' : w.cell? ⟨L, q * 3, none⟩ = some (.int .i64 (headI (I (q + 1)))) := by rw [hfi]; cases I (q + 1) <;> rfl
  clear hfi
  go_enter Try.func26, Try.ntmps26
  go_wp2_with (go_at_call 30; refine (poolI_queue g N L R Q cap q T _ xs I _ h hq rfl).mono ?_; rintro e w' ⟨rfl, rfl⟩)
  go_loopg [7, 8] (I (q + 1)).length (fun k v i wr => ∃ ps is : List Nat, I (q + 1) = ps ++ is ∧ i = .int .i64 (headI is) ∧ k = is.length ∧ Keeps (fun _ => False) w wr ∧ wr.ownsRow w.heap.size 3 1 v ps.length (ps.map (fun i => Value.int .i64 (xs i))))
  case atStart => exact ⟨[], I (q + 1), rfl, rfl, rfl, Keeps.refl _ _, World.ownsRow_nil _ _ _ _⟩
  case round =>
    obtain ⟨ps, is, hI, hi8, hk, hkeep, hown⟩ := hrel
    have HI := Lib.hid hI
    have HK := Lib.hid hk
    have hlen2 : ps.length + is.length ≤ 1024 := by rw [hI, List.length_append] at hlen; exact hlen
    clear hk hlen
    have hr := h.keeps hkeep (fun x => x) (fun x => x) (fun x => x)
    cases is with
    | nil =>
      clear hI
      replace hi8 := hi8.trans (show Value.int .i64 (headI []) = .int .i64 (-1) from rfl)
      subst hi8
      go_wp2
      go_ret
      refine ⟨_, rfl, ?_, hkeep⟩
      have := Rds.own hown
      rw [HI.out]
      simpa using this
    | cons i is =>
      have hi := h.lt hpq.le i (by rw [hI]; simp)
      obtain ⟨n0, n1, n2⟩ := hr.node hi
      have hnx := hr.next hpq.le hI
      clear hI
      have hne : ((i : Int) != -1) = true := by simp
      replace hi8 := hi8.trans (show Value.int .i64 (headI (i :: is)) = .int .i64 (i : Int) from rfl)
      subst hi8
      obtain ⟨A, c, rfl⟩ := own_slice' hown
      go_wp2_with (at_builtin; go_loud (refine wpList_append_rds _ rfl _ _ 33 rfl w.heap.size 3 (.int .i64 0) 1 8 Try.underlying33 Try.info3' rfl (by decide) _ _ _ rfl (hown.alloc _) _ _ 1 [.int .i64 (xs i)] rfl (rds_one' _ _ _) ?c1 ?c2 ?c3 ?c4 ?_))
      case c1 => intro u hu; simp at hu; subst hu; rfl
      case c2 => unfold maxLen; omega
      case c3 => omega
      case c4 => have := hkeep.size; simp; omega
      intro A1 p1 w1 hown1 hgrow1 hat1
      have hk1 : Keeps (fun _ => False) w w1 := (hkeep.alloc _).grown hgrow1 (fun k hk hlt => by have := (hown.lt k hk).1; omega)
      have hr1 := h.keeps hk1 (fun x => x) (fun x => x) (fun x => x)
      obtain ⟨m0, m1, m2⟩ := hr1.node hi
      have hnx1 := hr1.next hpq.le HI.out
      go_wp2
      have hk := HK.out
      go_roundg (gk - 1)
      case measure => simp at hk; omega
      case rel => exact ⟨ps ++ [i], is, by rw [HI.out]; simp, rfl, by simp at hk; omega, hk1, by simpa using hown1⟩

end Go.Proofs.Ytfnlmnpfflnaiaa
