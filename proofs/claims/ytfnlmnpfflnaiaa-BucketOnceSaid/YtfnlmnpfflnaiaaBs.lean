/- becketref02.Same, by its contract. -/
import Derived.Test.YtfnlmnpfflnaiaaBc
namespace Go.Proofs.Ytfnlmnpfflnaiaa
open Go.RowKit
set_option linter.unusedVariables false
set_option linter.unusedSimpArgs false

theorem take_succ_getD {xs : List Int} {k : Nat} (h : k < xs.length) : xs.take (k + 1) = xs.take k ++ [xs.getD k 0] := by
  rw [List.take_succ_eq_append_getElem h]
  simp [List.getD, h]

/-- The element of a slice of ints. -/
theorem Rds.at_int {ok : Nat → Prop} {w : World} {v : Value} {m : Nat} {xs : List Int} (h : Rds ok w v 1 m (ints xs)) : xs.length = m ∧ ∃ A c, v = .slice A m c ∧ m ≤ c ∧ (0 < m → ∃ b o, A = some ⟨b, o, none⟩ ∧ ∀ i, i < m → w.cell? ⟨b, o + i, none⟩ = some (.int .i64 (xs.getD i 0))) := by
  have hlen : xs.length = m := by have := h.1; simpa using this
  obtain ⟨hl, A, c, rfl, hmc, hA⟩ := h
  refine ⟨hlen, A, c, rfl, hmc, fun hm => ?_⟩
  obtain ⟨b, o, rfl, hok, hlt, hc⟩ := hA.resolve_left (by omega)
  exact ⟨b, o, rfl, fun i hi => hc i (.int .i64 (xs.getD i 0)) (by simp [show i < xs.length by omega, List.getD])⟩

set_option maxHeartbeats 400000 in
theorem ref2_same_len (m n : Nat) (A B : Option Addr) (c d : Nat) (w : World) (h : m ≠ n) :
    Calls Try.prog 11 #[.slice A m c, .slice B n d] w fun e w' => e = .returned (.bool false) ∧ w = w' := by
  have hne : (m == n) = false := by simpa using h
  go_enter Try.func11, Try.ntmps11
  go_wp2
  go_ret
  exact ⟨rfl, rfl⟩

set_option maxHeartbeats 400000 in
theorem ref2_same (m : Nat) (u v : Value) (xs ys : List Int) (ok ok' : Nat → Prop) (w : World) (h : Rds ok w u 1 m (ints xs)) (h' : Rds ok' w v 1 m (ints ys)) (hm : m ≤ 2000) :
    Calls Try.prog 11 #[u, v] w fun e w' => e = .returned (.bool (decide (xs = ys))) ∧ ∃ k, w' = w.drewN k := by
  obtain ⟨hlx, A, c, rfl, hmc, hcx⟩ := h.at_int
  obtain ⟨hly, B, d, rfl, hmd, hcy⟩ := h'.at_int
  clear h h'
  go_enter Try.func11, Try.ntmps11
  go_wp2
  go_loopw [5] (fun i wr => ∃ k q : Nat, k ≤ m ∧ i = .int .i64 k ∧ wr = w.drewN q ∧ xs.take k = ys.take k) (fun i _ => m - (intOf i).toNat)
  case atStart => exact ⟨0, 0, Nat.zero_le _, rfl, rfl, rfl⟩
  case round =>
    obtain ⟨k, q, hk, rfl, rfl, htk⟩ := hrel
    have HT := Lib.hid htk
    clear htk
    by_cases hlt : k < m
    · obtain ⟨b, o, rfl, hx⟩ := hcx (by omega)
      obtain ⟨b', o', rfl, hy⟩ := hcy (by omega)
      have hx' := hx k hlt
      have hy' := hy k hlt
      clear hx hy hcx hcy
      obtain ⟨p, hp⟩ : ∃ p, p = xs.getD k 0 := ⟨_, rfl⟩
      obtain ⟨p', hp'⟩ : ∃ p, p = ys.getD k 0 := ⟨_, rfl⟩
      rw [← hp] at hx'
      rw [← hp'] at hy'
      have HP := Lib.hid hp
      have HP' := Lib.hid hp'
      clear hp hp'
      by_cases he : p = p'
      · subst he
        go_wp2
        refine wp_qall (w0 := w) ⟨q, rfl⟩ (by kernel_rfl) (by kernel_rfl) ?_
        repeat go_big_quiet_step (fail)
        refine wpQuiet_nil (fun nr => ?_)
        go_wp2
        go_roundw
        case rel => exact ⟨k + 1, nr, by omega, by go_num, rfl, by rw [take_succ_getD (by omega), take_succ_getD (by omega), HT.out, ← HP.out, ← HP'.out]⟩
        case measure => simp [intOf]; omega
      · have he1 : (p == p') = false := by simpa using he
        go_wp2
        refine wp_qall (w0 := w) ⟨q, rfl⟩ (by kernel_rfl) (by kernel_rfl) ?_
        repeat go_big_quiet_step (fail)
        refine wpQuiet_nil (fun nr => ?_)
        go_wp2
        go_ret
        refine ⟨?_, _, rfl⟩
        have : xs ≠ ys := fun e => he (by rw [HP.out, HP'.out, e])
        simp [this]
    · have hkm : k = m := by omega
      subst hkm
      go_wp2
      go_ret
      refine ⟨?_, _, rfl⟩
      have ht := HT.out
      rw [List.take_of_length_le (by omega), List.take_of_length_le (by omega)] at ht
      simp [ht]
end Go.Proofs.Ytfnlmnpfflnaiaa
