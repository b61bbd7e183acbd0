/- A table of slots (becket/arena) in memory, and handles (becket/handle): the methods, each by its own contract. -/
import Derived.Test.YtlfccifibhcacaaProg
import Derived.Test.YtlfccifibhcacaaKs
import Derived.Test.YtlfccifibhcacaaAp
import Derived.Deep.LoopGhost
import Derived.Deep.OwnRows
namespace Go.Proofs.Ytlfccifibhcacaa
open Go.RowKit
set_option linter.unusedVariables false
set_option linter.unusedSimpArgs false

theorem acs_ne {w : World} {p q : Addr} {v : Value} {u : Value} (hc : w.cell? q = some u) (h : p ≠ q) : (w.setCell p v).cell? q = some u := (World.cell?_setCell_other _ _ _ _ h).trans hc
theorem aad_ne {b o b' o' : Nat} (h : b ≠ b' ∨ o ≠ o') : (⟨b, o, none⟩ : Addr) ≠ ⟨b', o', none⟩ := by
  intro e; injection e with e1 e2; rcases h with h | h
  · exact h e1
  · exact h e2
theorem abset {w : World} {g : Nat} {t : TypeId} (h : ∃ cs, w.heap[g]? = some (.cells cs t (0, 0))) (p : Addr) (v : Value) : ∃ cs, (w.setCell p v).heap[g]? = some (.cells cs t (0, 0)) := by
  obtain ⟨cs, h⟩ := h
  obtain ⟨b, o, sp⟩ := p
  by_cases e : g = b
  · subst e
    cases sp with
    | none => exact ⟨_, blkset h o v⟩
    | some s => exact ⟨cs, by simp [World.setCell, Array.getElem?_modify, h]⟩
  · exact ⟨cs, blkfar h e v⟩

/-- A table: its own block g, and the block s of its slots. -/
structure IsArena (w : World) (g s : Nat) (last : Int) (many : Int) (sl : List ASlot) : Prop where
  own : w.heap[g]? = some (.cells #[.int .i64 last, .int .i64 many, .slice (some ⟨s, 0, none⟩) sl.length sl.length] 93 (0, 0))
  bs : ∃ cs, w.heap[s]? = some (.cells cs 98 (0, 0))
  nd : ∀ i, i < sl.length → w.cell? ⟨s, i * 3, none⟩ = some (.int .i64 (sAt sl i).gen) ∧ w.cell? ⟨s, i * 3 + 1, none⟩ = some (.bool (sAt sl i).used) ∧ w.cell? ⟨s, i * 3 + 2, none⟩ = some (.int .i64 (sAt sl i).x)
  ne : g ≠ s
  fine : FineA last sl

namespace IsArena
variable {w w' : World} {g s : Nat} {last many : Int} {sl : List ASlot}
theorem c0 (h : IsArena w g s last many sl) : w.cell? ⟨g, 0, none⟩ = some (.int .i64 last) := (blkcell h.own 0).trans rfl
theorem c1 (h : IsArena w g s last many sl) : w.cell? ⟨g, 1, none⟩ = some (.int .i64 many) := (blkcell h.own 1).trans rfl
theorem c2 (h : IsArena w g s last many sl) : w.cell? ⟨g, 2, none⟩ = some (.slice (some ⟨s, 0, none⟩) sl.length sl.length) := (blkcell h.own 2).trans rfl
theorem lt (h : IsArena w g s last many sl) : g < w.heap.size ∧ s < w.heap.size := by obtain ⟨_, b⟩ := h.bs; exact ⟨blklt h.own, blklt b⟩
theorem fs (h : IsArena w g s last many sl) (o : Nat) : w.frozen? ⟨s, o, none⟩ = false := by obtain ⟨_, b⟩ := h.bs; exact blkfrozen b o
theorem keeps {S : Nat → Prop} (h : IsArena w g s last many sl) (hk : Keeps S w w') (hg : ¬ S g) (hs : ¬ S s) : IsArena w' g s last many sl := by
  obtain ⟨cs, b⟩ := h.bs
  have l := h.lt.2
  exact ⟨hk.blk h.own hg, ⟨cs, hk.blk b hs⟩, fun i hi => ⟨(hk.cell (p := ⟨s, _, none⟩) l hs).trans (h.nd i hi).1, (hk.cell (p := ⟨s, _, none⟩) l hs).trans (h.nd i hi).2.1, (hk.cell (p := ⟨s, _, none⟩) l hs).trans (h.nd i hi).2.2⟩, h.ne, h.fine⟩
theorem still (h : IsArena w g s last many sl) (hk : Keeps (fun _ => False) w w') : IsArena w' g s last many sl := h.keeps hk (fun x => x) (fun x => x)
theorem setMany (h : IsArena w g s last many sl) (m : Int) : IsArena (w.setCell ⟨g, 1, none⟩ (.int .i64 m)) g s last m sl :=
  ⟨by rw [blkset h.own]; rfl, abset h.bs _ _, fun i hi => ⟨acs_ne (h.nd i hi).1 (aad_ne (.inl h.ne)), acs_ne (h.nd i hi).2.1 (aad_ne (.inl h.ne)), acs_ne (h.nd i hi).2.2 (aad_ne (.inl h.ne))⟩, h.ne, h.fine⟩
end IsArena

/-- One slot written: what the slots' cells are then. -/
structure Slots (w : World) (s : Nat) (sl : List ASlot) : Prop where
  bs : ∃ cs, w.heap[s]? = some (.cells cs 98 (0, 0))
  nd : ∀ i, i < sl.length → w.cell? ⟨s, i * 3, none⟩ = some (.int .i64 (sAt sl i).gen) ∧ w.cell? ⟨s, i * 3 + 1, none⟩ = some (.bool (sAt sl i).used) ∧ w.cell? ⟨s, i * 3 + 2, none⟩ = some (.int .i64 (sAt sl i).x)

namespace Slots
variable {w w' : World} {s : Nat} {sl : List ASlot}
theorem setG (h : Slots w s sl) {i : Nat} (hi : i < sl.length) (v : Int) : Slots (w.setCell ⟨s, i * 3, none⟩ (.int .i64 v)) s (sl.set i ⟨v, (sAt sl i).used, (sAt sl i).x⟩) := by
  refine ⟨abset h.bs _ _, fun j hj => ?_⟩
  obtain ⟨h1, h2, h3⟩ := h.nd j (by simpa using hj)
  rw [sAt_set _ _ _ _ hi]
  by_cases e : j = i
  · subst e; rw [if_pos rfl]
    exact ⟨World.cell?_setCell_same' _ _ _ (by rw [h1]; rfl), acs_ne h2 (aad_ne (.inr (by omega))), acs_ne h3 (aad_ne (.inr (by omega)))⟩
  · rw [if_neg e]
    exact ⟨acs_ne h1 (aad_ne (.inr (by omega))), acs_ne h2 (aad_ne (.inr (by omega))), acs_ne h3 (aad_ne (.inr (by omega)))⟩
theorem setU (h : Slots w s sl) {i : Nat} (hi : i < sl.length) (v : Bool) : Slots (w.setCell ⟨s, i * 3 + 1, none⟩ (.bool v)) s (sl.set i ⟨(sAt sl i).gen, v, (sAt sl i).x⟩) := by
  refine ⟨abset h.bs _ _, fun j hj => ?_⟩
  obtain ⟨h1, h2, h3⟩ := h.nd j (by simpa using hj)
  rw [sAt_set _ _ _ _ hi]
  by_cases e : j = i
  · subst e; rw [if_pos rfl]
    exact ⟨acs_ne h1 (aad_ne (.inr (by omega))), World.cell?_setCell_same' _ _ _ (by rw [h2]; rfl), acs_ne h3 (aad_ne (.inr (by omega)))⟩
  · rw [if_neg e]
    exact ⟨acs_ne h1 (aad_ne (.inr (by omega))), acs_ne h2 (aad_ne (.inr (by omega))), acs_ne h3 (aad_ne (.inr (by omega)))⟩
theorem setX (h : Slots w s sl) {i : Nat} (hi : i < sl.length) (v : Int) : Slots (w.setCell ⟨s, i * 3 + 2, none⟩ (.int .i64 v)) s (sl.set i ⟨(sAt sl i).gen, (sAt sl i).used, v⟩) := by
  refine ⟨abset h.bs _ _, fun j hj => ?_⟩
  obtain ⟨h1, h2, h3⟩ := h.nd j (by simpa using hj)
  rw [sAt_set _ _ _ _ hi]
  by_cases e : j = i
  · subst e; rw [if_pos rfl]
    exact ⟨acs_ne h1 (aad_ne (.inr (by omega))), acs_ne h2 (aad_ne (.inr (by omega))), World.cell?_setCell_same' _ _ _ (by rw [h3]; rfl)⟩
  · rw [if_neg e]
    exact ⟨acs_ne h1 (aad_ne (.inr (by omega))), acs_ne h2 (aad_ne (.inr (by omega))), acs_ne h3 (aad_ne (.inr (by omega)))⟩
end Slots
theorem IsArena.slots {w : World} {g s : Nat} {last many : Int} {sl : List ASlot} (h : IsArena w g s last many sl) : Slots w s sl := ⟨h.bs, h.nd⟩
theorem Slots.arena {w w' : World} {g s : Nat} {last many : Int} {sl sl' : List ASlot} (hs : Slots w' s sl') (h : IsArena w g s last many sl) (hk : Keeps (fun k => k = s) w w') (hl : sl'.length = sl.length) (hf : FineA last sl') : IsArena w' g s last many sl' :=
  ⟨by rw [hl]; exact hk.blk h.own (fun e => h.ne e), hs.bs, hs.nd, h.ne, hf⟩

/-! ### handles -/
theorem hd_within (n a b : Int) (w : World) :
    Calls Try.prog 75 #[.int .i64 n, .int .i64 a, .int .i64 b] w fun e w' => e = .returned (.bool (decide (a ≤ n ∧ n ≤ b))) ∧ w = w' := by
  by_cases h0 : a ≤ n
  · by_cases h1 : n ≤ b
    · rw [decide_eq_true ⟨h0, h1⟩]
      go_enter Try.func75, Try.ntmps75
      go_wp2
      go_ret
      exact ⟨rfl, rfl⟩
    · rw [decide_eq_false (fun h => h1 h.2)]
      go_enter Try.func75, Try.ntmps75
      go_wp2
      go_ret
      exact ⟨rfl, rfl⟩
  · rw [decide_eq_false (fun h => h0 h.1)]
    go_enter Try.func75, Try.ntmps75
    go_wp2
    go_ret
    exact ⟨rfl, rfl⟩
theorem hd_fine (h : Int) (w : World) : Calls Try.prog 76 #[.int .i64 h] w fun e w' => e = .returned (.bool (fineH h)) ∧ w = w' := by
  go_enter Try.func76, Try.ntmps76
  go_wp2_with (go_at_call 75; refine (hd_within _ _ _ _).mono ?_; rintro e w' ⟨rfl, rfl⟩)
  go_ret
  exact ⟨by simp [fineH], rfl⟩
theorem hd_slot (h : Int) (w : World) : Calls Try.prog 70 #[.int .i64 h] w fun e w' => e = .returned (.int .i64 (hS h)) ∧ w = w' := by
  by_cases hf : fineH h = true
  · have h1 : 4096 ≤ h := by simp [fineH] at hf; omega
    have h2 : h ≤ 268435455 := by simp [fineH] at hf; omega
    rw [hS, if_pos hf]
    go_enter Try.func70, Try.ntmps70
    go_wp2_with (go_at_call 76; refine (hd_fine _ _).mono ?_; rintro e w' ⟨rfl, rfl⟩; rw [hf])
    go_ret
    exact ⟨rfl, rfl⟩
  · rw [hS, if_neg hf]
    go_enter Try.func70, Try.ntmps70
    go_wp2_with (go_at_call 76; refine (hd_fine _ _).mono ?_; rintro e w' ⟨rfl, rfl⟩; rw [Bool.eq_false_iff.2 hf])
    go_ret
    exact ⟨rfl, rfl⟩
theorem hd_gen (h : Int) (w : World) : Calls Try.prog 71 #[.int .i64 h] w fun e w' => e = .returned (.int .i64 (hG h)) ∧ w = w' := by
  by_cases hf : fineH h = true
  · have h1 : 4096 ≤ h := by simp [fineH] at hf; omega
    have h2 : h ≤ 268435455 := by simp [fineH] at hf; omega
    rw [hG, if_pos hf]
    go_enter Try.func71, Try.ntmps71
    go_wp2_with (go_at_call 76; refine (hd_fine _ _).mono ?_; rintro e w' ⟨rfl, rfl⟩; rw [hf])
    go_ret
    exact ⟨rfl, rfl⟩
  · rw [hG, if_neg hf]
    go_enter Try.func71, Try.ntmps71
    go_wp2_with (go_at_call 76; refine (hd_fine _ _).mono ?_; rintro e w' ⟨rfl, rfl⟩; rw [Bool.eq_false_iff.2 hf])
    go_ret
    exact ⟨rfl, rfl⟩
theorem hd_make (s g : Int) (w : World) (h0 : 0 ≤ s) (h1 : s ≤ 4095) (h2 : 1 ≤ g) (h3 : g ≤ 65535) :
    Calls Try.prog 52 #[.int .i64 s, .int .i64 g] w fun e w' => e = .returned (.tuple #[.int .i64 (g * 4096 + s), .int .i64 0]) ∧ w = w' := by
  have d1 : decide (0 ≤ s ∧ s ≤ 4095) = true := by simp; omega
  have d2 : decide (1 ≤ g ∧ g ≤ 65535) = true := by simp; omega
  have D1 := Lib.hid d1
  have D2 := Lib.hid d2
  clear d1 d2
  go_enter Try.func52, Try.ntmps52
  go_wp2_with fail
  refine (hd_within _ _ _ _).mono ?_
  rintro e w' ⟨rfl, rfl⟩
  rw [D1.out]
  go_wp2_with fail
  refine (hd_within _ _ _ _).mono ?_
  rintro e w' ⟨rfl, rfl⟩
  rw [D2.out]
  go_wp2_with fail
  go_ret2
  exact ⟨rfl, rfl⟩

/-! ### the table -/
theorem ar_ok (g s : Nat) (last many : Int) (sl : List ASlot) (w : World) (h : IsArena w g s last many sl) :
    Calls Try.prog 50 #[.pointer (some ⟨g, 0, none⟩)] w fun e w' => e = .returned (.bool true) ∧ w = w' := by
  have c2 := h.c2
  have n0 := h.fine.n0
  have hd : decide (0 < sl.length) = true := by simpa using n0
  go_enter Try.func50, Try.ntmps50
  go_wp2
  go_ret
  exact ⟨by simp [n0], rfl⟩

set_option maxHeartbeats 400000 in
theorem ar_open (g s : Nat) (last many : Int) (sl : List ASlot) (i : Nat) (w : World) (h : IsArena w g s last many sl) (hi : i < sl.length) :
    Calls Try.prog 51 #[.pointer (some ⟨g, 0, none⟩), .int .i64 i] w fun e w' => e = .returned (.bool (openS last (sAt sl i))) ∧ ∃ k, w' = w.drewN k := by
  have c0 := h.c0
  have c2 := h.c2
  obtain ⟨d0, d1, _⟩ := h.nd i hi
  have n1 := h.fine.n1
  unfold openS
  generalize sAt sl i = t at *
  obtain ⟨ge, us, x⟩ := t
  cases us with
  | true =>
    go_enter Try.func51, Try.ntmps51
    go_wp2
    refine wp_qall (w0 := w) ⟨0, rfl⟩ (by kernel_rfl) (by kernel_rfl) ?_
    repeat go_big_quiet_step (fail)
    refine wpQuiet_nil (fun nq => ?_)
    go_wp2
    go_ret
    exact ⟨rfl, _, rfl⟩
  | false =>
    go_enter Try.func51, Try.ntmps51
    go_wp2
    refine wp_qall (w0 := w) ⟨0, rfl⟩ (by kernel_rfl) (by kernel_rfl) ?_
    repeat go_big_quiet_step (fail)
    refine wpQuiet_nil (fun nq => ?_)
    go_wp2
    go_ret
    exact ⟨by simp, _, rfl⟩
end Go.Proofs.Ytlfccifibhcacaa
