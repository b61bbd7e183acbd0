/- A pool of queues (becket/queue): Remove and New. -/
import Derived.Test.YtlfccifibhcacaaQn
import Derived.Deep.OwnRows
namespace Go.Proofs.Ytlfccifibhcacaa
open Go.RowKit
set_option linter.unusedVariables false
set_option linter.unusedSimpArgs false

set_option maxHeartbeats 800000 in
theorem poolI_remove_bad (g N L R Q cap T : Nat) (q x : Int) (xs : Nat → Int) (I : Nat → List Nat) (w : World) (h : PoolI w g N L R Q cap xs I T) (hq : q < 0 ∨ (Q : Int) ≤ q) :
    Calls Try.prog 34 #[.pointer (some ⟨g, 0, none⟩), .int .i64 q, .int .i64 x] w fun e w' => e = .returned (.bool false) ∧ w = w' := by
  go_enter Try.func34, Try.ntmps34
  go_wp2
  refine wp_scope_jumps 0 (fun _ _ => False) (fun _ _ => 0) rfl ?_ (fun _ _ h => h.elim)
  go_wp2_with (go_at_call 62; refine (poolI_queue_bad g N L R Q cap T q xs I _ h hq).mono ?_; rintro e w' ⟨rfl, rfl⟩)
  simp only [Exit.jump]
  go_ret
  exact ⟨rfl, rfl⟩

/-- What Remove answers: the first node of that queue that has x is taken out, and hung behind the free ones. -/
def RemPost (w w' : World) (g N L R Q cap T q : Nat) (x : Int) (xs : Nat → Int) (I : Nat → List Nat) (e : Ending) : Prop :=
  (e = .returned (.bool false) ∧ (∀ j ∈ I (q + 1), xs j ≠ x) ∧ ∃ n, w' = w.drewN n) ∨
  (e = .returned (.bool true) ∧ ∃ ps i is, I (q + 1) = ps ++ i :: is ∧ (∀ j ∈ ps, xs j ≠ x) ∧ xs i = x ∧ PoolI w' g N L R Q cap xs (updL (updL I (q + 1) (ps ++ is)) 0 (I 0 ++ [i])) T ∧ Keeps (PB g N L) w w')

/-- Where the search stands at a jump back: p is the last node that was looked at. -/
def RemJ (w : World) (g L q : Nat) (x : Int) (xs : Nat → Int) (I : Nat → List Nat) (a' : Act) (w' : World) : Prop :=
  ∃ (ps is : List Nat) (p n : Nat), I (q + 1) = ps ++ p :: is ∧ (∀ j ∈ ps ++ [p], xs j ≠ x) ∧ w' = w.drewN n ∧ ∃ u22 u23 u24 u25 u26 u27 u28 u29 u30 u31 u32 u33 u34 u35 u36 u37 u38 u39 u40 u41 u42 u43 u44 u45 u46 u47 u48 u49 u50 u51 u52 : Value, a' = { tmps := #[.pointer (some ⟨g, 0, none⟩), .int .i64 q, .int .i64 x, undef, undef, undef, .bool false, .pointer (some ⟨L, q * 3, none⟩), .int .i64 0, .int .i64 p, .int .i64 (headI is), .tuple #[.pointer (some ⟨L, q * 3, none⟩), .int .i64 0], .pointer (some ⟨g, 0, none⟩), .int .i64 q, .tuple #[.pointer (some ⟨L, q * 3, none⟩), .int .i64 0], .pointer (some ⟨L, q * 3, none⟩), .int .i64 0, .int .i64 0, .bool false, .pointer (some ⟨L, q * 3, none⟩), .pointer (some ⟨L, q * 3, none⟩), .pointer (some ⟨L, q * 3, none⟩), u22, u23, u24, u25, u26, u27, u28, u29, u30, u31, u32, u33, u34, u35, u36, u37, u38, u39, u40, u41, u42, u43, u44, u45, u46, u47, u48, u49, u50, u51, u52], defers := [] }

theorem RemJ.mk_ {w w' : World} {g L q : Nat} {x : Int} {xs : Nat → Int} {I : Nat → List Nat} {a' : Act} (ps is : List Nat) (p n : Nat) (h1 : I (q + 1) = ps ++ p :: is) (h2 : ∀ j ∈ ps ++ [p], xs j ≠ x) (h3 : w' = w.drewN n) (h4 : ∃ u22 u23 u24 u25 u26 u27 u28 u29 u30 u31 u32 u33 u34 u35 u36 u37 u38 u39 u40 u41 u42 u43 u44 u45 u46 u47 u48 u49 u50 u51 u52 : Value, a' = { tmps := #[.pointer (some ⟨g, 0, none⟩), .int .i64 q, .int .i64 x, undef, undef, undef, .bool false, .pointer (some ⟨L, q * 3, none⟩), .int .i64 0, .int .i64 p, .int .i64 (headI is), .tuple #[.pointer (some ⟨L, q * 3, none⟩), .int .i64 0], .pointer (some ⟨g, 0, none⟩), .int .i64 q, .tuple #[.pointer (some ⟨L, q * 3, none⟩), .int .i64 0], .pointer (some ⟨L, q * 3, none⟩), .int .i64 0, .int .i64 0, .bool false, .pointer (some ⟨L, q * 3, none⟩), .pointer (some ⟨L, q * 3, none⟩), .pointer (some ⟨L, q * 3, none⟩), u22, u23, u24, u25, u26, u27, u28, u29, u30, u31, u32, u33, u34, u35, u36, u37, u38, u39, u40, u41, u42, u43, u44, u45, u46, u47, u48, u49, u50, u51, u52], defers := [] }) : RemJ w g L q x xs I a' w' := ⟨ps, is, p, n, h1, h2, h3, h4⟩

theorem idx_at {ps is : List Nat} {p : Nat} (h : p ∉ ps) : (ps ++ p :: is).idxOf p = ps.length := by
  rw [List.idxOf_append]; simp [h]

/-- How many nodes are still to be looked at. -/
def remM (I : Nat → List Nat) (q : Nat) (a' : Act) : Nat := (I (q + 1)).length - (I (q + 1)).idxOf (intOf (a'.tmps.getD 9 undef)).toNat

set_option maxHeartbeats 4000000 in
set_option maxRecDepth 100000 in
theorem poolI_remove (g N L R Q cap T q : Nat) (x : Int) (xs : Nat → Int) (I : Nat → List Nat) (w : World) (h : PoolI w g N L R Q cap xs I T) (hq : q < Q) :
    Calls Try.prog 34 #[.pointer (some ⟨g, 0, none⟩), .int .i64 q, .int .i64 x] w fun e w' => RemPost w w' g N L R Q cap T q x xs I e := by
  have hp0 : LinePtr g L Q 0 g 2 := .inl ⟨rfl, rfl, rfl⟩
  have hpq : LinePtr g L Q (q + 1) L (q * 3) := .inr ⟨q, hq, rfl, rfl, rfl⟩
  have hT : T ≤ 1024 := by obtain ⟨_, _, _, _, _, _, _, h⟩ := h; exact h
  have hnd : (I (q + 1)).Nodup := by obtain ⟨_, _, _, _, _, h2, _⟩ := h; exact h2.nodup (q + 1) (by omega)
  have hfi := h.first hpq
  have hfi' : w.cell? ⟨L, q * 3, none⟩ = some (.int .i64 (headI (I (q + 1)))) := by rw [hfi]; cases I (q + 1) <;> rfl
  clear hfi
  go_enter Try.func34, Try.ntmps34
  go_wp2
  refine wp_scope_jumps 0 (RemJ w g L q x xs I) (fun a' _ => remM I q a') rfl ?_ ?_
  · cases hI : I (q + 1) with
    | nil =>
      rw [hI] at hfi'
      have HI := Lib.hid hI
      clear hI
      replace hfi' := hfi'.trans (show some (Value.int .i64 (headI [])) = some (.int .i64 (-1)) from rfl)
      go_wp2_with (go_at_call 62; refine (poolI_queue g N L R Q cap q T _ xs I _ h hq rfl).mono ?_; rintro e w' ⟨rfl, rfl⟩)
      refine wp_qall (w0 := w) ⟨0, rfl⟩ (by kernel_rfl) (by kernel_rfl) ?_
      repeat go_big_quiet_step (fail)
      refine wpQuiet_nil (fun nz => ?_)
      go_wp2
      go_step3
      go_wp2
      simp only [Exit.jump]
      go_ret
      exact .inl ⟨rfl, (fun j hj => by rw [HI.out] at hj; cases hj), _, rfl⟩
    | cons i is =>
      have hi := h.lt hpq.le i (by rw [hI]; simp)
      have hnx := h.next hpq.le (ps := []) hI
      obtain ⟨n0, n1, n2⟩ := h.node hi
      have hrw : Value.int .i64 (headI (I (q + 1))) = .int .i64 (i : Int) := by rw [hI]; rfl
      rw [hrw] at hfi'
      have HI := Lib.hid hI
      have HRW := Lib.hid hrw
      clear hI hrw
      have hne : ((i : Int) == -1) = false := by simp
      by_cases hx : xs i = x
      · have hx' : (xs i != x) = false := by simpa using hx
        have HX := Lib.hid hx
        clear hx
        go_wp2_with (go_at_call 62; refine (poolI_queue g N L R Q cap q T _ xs I _ h hq rfl).mono ?_; rintro e w' ⟨rfl, rfl⟩)
        refine wp_qall (w0 := w) ⟨0, rfl⟩ (by kernel_rfl) (by kernel_rfl) ?_
        repeat go_big_quiet_step (fail)
        refine wpQuiet_nil (fun nz => ?_)
        go_wp2
        go_step3
        go_wp2
        have hD := h.drewN (nz + 1)
        go_region_held3 (fun W => True) (first | trivial)
          (first | (go_at_call 63; refine (poolI_take0 g N L R Q cap (q + 1) L (q * 3) i T is xs I _ hD hpq HI.out).mono ?_; rintro e w1 ⟨rfl, h1, k1, hi', hT0, hout⟩)
                 | (go_at_call 61; refine (poolI_hang g N L R Q cap 0 g 2 i (T - 1) _ _ _ h1 hp0 hi hout (by omega)).mono ?_; rintro e w3 ⟨rfl, h3, k3⟩))
        go_wp2
        simp only [Exit.jump]
        go_ret
        rw [updL_ne _ _ (by omega), show T - 1 + 1 = T by omega] at h3
        exact .inr ⟨rfl, [], i, is, HI.out, (fun j hj => by cases hj), HX.out, h3, ((Keeps.refl _ w).drewN (nz + 1)).trans' (k1.trans' k3)⟩
      · have hx' : (xs i != x) = true := by simpa using hx
        have HX := Lib.hid hx
        clear hx
        go_wp2_with (go_at_call 62; refine (poolI_queue g N L R Q cap q T _ xs I _ h hq rfl).mono ?_; rintro e w' ⟨rfl, rfl⟩)
        refine wp_qall (w0 := w) ⟨0, rfl⟩ (by kernel_rfl) (by kernel_rfl) ?_
        repeat go_big_quiet_step (fail)
        refine wpQuiet_nil (fun nz => ?_)
        go_wp2
        go_step3
        go_wp2
        refine wp_qall (w0 := w) ⟨nz, rfl⟩ (by kernel_rfl) (by kernel_rfl) ?_
        repeat go_big_quiet_step (fail)
        refine wpQuiet_nil (fun nr => ?_)
        go_wp2
        go_step3
        refine ⟨rfl, ?_⟩
        exact RemJ.mk_ [] is i nr HI.out (fun j hj => by simp at hj; rw [hj]; exact HX.out) rfl ⟨_, _, _, _, _, _, _, _, _, _, _, _, _, _, _, _, _, _, _, _, _, _, _, _, _, _, _, _, _, _, _, rfl⟩
  · rintro a' w' ⟨ps, is, p, n, hI, hps, rfl, u22, u23, u24, u25, u26, u27, u28, u29, u30, u31, u32, u33, u34, u35, u36, u37, u38, u39, u40, u41, u42, u43, u44, u45, u46, u47, u48, u49, u50, u51, u52, rfl⟩
    have hpps : p ∉ ps := by
      rw [hI, List.nodup_append] at hnd
      exact fun hm => hnd.2.2 p hm p (by simp) rfl
    have hI2 : I (q + 1) = (ps ++ [p]) ++ is := by rw [hI]; simp
    cases is with
    | nil =>
      have HI := Lib.hid hI2
      have HPS := Lib.hid hps
      clear hI hI2 hps
      rw [show headI [] = -1 from rfl]
      go_wp2
      simp only [Exit.jump]
      go_ret
      exact .inl ⟨rfl, (fun j hj => by rw [HI.out] at hj; exact HPS.out j (by simpa using hj)), _, rfl⟩
    | cons i is =>
      have hi := h.lt hpq.le i (by rw [hI]; simp)
      have hnx := h.next hpq.le hI2
      obtain ⟨n0, n1, n2⟩ := h.node hi
      have HI := Lib.hid hI
      have HI2 := Lib.hid hI2
      have HPS := Lib.hid hps
      clear hI hI2 hps
      rw [show headI (i :: is) = (i : Int) from rfl]
      have hne : ((i : Int) == -1) = false := by simp
      by_cases hx : xs i = x
      · have hx' : (xs i != x) = false := by simpa using hx
        have HX := Lib.hid hx
        clear hx
        go_wp2
        have hD := h.drewN (n + 1)
        go_region_held3 (fun W => True) (first | trivial)
          (first | (go_at_call 63; refine (poolI_take1 g N L R Q cap (q + 1) L (q * 3) p i T ps is xs I _ hD hpq HI.out).mono ?_; rintro e w1 ⟨rfl, h1, k1, hi', hT0, hout⟩)
                 | (go_at_call 61; refine (poolI_hang g N L R Q cap 0 g 2 i (T - 1) _ _ _ h1 hp0 hi hout (by omega)).mono ?_; rintro e w3 ⟨rfl, h3, k3⟩))
        go_wp2
        simp only [Exit.jump]
        go_ret
        rw [updL_ne _ _ (by omega), show T - 1 + 1 = T by omega] at h3
        exact .inr ⟨rfl, ps ++ [p], i, is, HI2.out, HPS.out, HX.out, by simpa using h3, ((Keeps.refl _ w).drewN (n + 1)).trans' (k1.trans' k3)⟩
      · have hx' : (xs i != x) = true := by simpa using hx
        have HX := Lib.hid hx
        clear hx
        go_wp2
        refine wp_qall (w0 := w) ⟨n, rfl⟩ (by kernel_rfl) (by kernel_rfl) ?_
        repeat go_big_quiet_step (fail)
        refine wpQuiet_nil (fun nr => ?_)
        go_wp2
        go_step3
        refine ⟨rfl, ?_, ?_⟩
        · exact RemJ.mk_ (ps ++ [p]) is i nr HI2.out (fun j hj => by simp at hj; rcases hj with hj | rfl | rfl; exact HPS.out j (by simp [hj]); exact HPS.out _ (by simp); exact HX.out) rfl ⟨_, _, _, _, _, _, _, _, _, _, _, _, _, _, _, _, _, _, _, _, _, _, _, _, _, _, _, _, _, _, _, rfl⟩
        · show remM I q _ < remM I q _
          have hii : i ∉ ps ++ [p] := by
            rw [HI2.out, List.nodup_append] at hnd
            exact fun hm => hnd.2.2 i hm i (by simp) rfl
          show (I (q + 1)).length - (I (q + 1)).idxOf i < (I (q + 1)).length - (I (q + 1)).idxOf p
          have e1 : (I (q + 1)).idxOf i = ps.length + 1 := by rw [HI2.out, idx_at hii]; simp
          have e2 : (I (q + 1)).idxOf p = ps.length := by rw [HI.out, idx_at hpps]
          have e3 : (I (q + 1)).length = ps.length + 1 + 1 + is.length := by rw [HI2.out]; simp; omega
          omega
end Go.Proofs.Ytlfccifibhcacaa
