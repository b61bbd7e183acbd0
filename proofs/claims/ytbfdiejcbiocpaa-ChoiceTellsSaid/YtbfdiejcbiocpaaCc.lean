/- Choices in memory: Check and All of the program and of the document, To, Back, Same, by their contracts. -/
import Derived.Test.YtbfdiejcbiocpaaProg
import Derived.Test.YtbfdiejcbiocpaaKs
import Derived.Test.YtbfdiejcbiocpaaKk
import Derived.Test.YtbfdiejcbiocpaaCp
import Derived.Deep.LoopGhost
import Derived.Deep.OwnRows
namespace Go.Proofs.Ytbfdiejcbiocpaa
open Go.RowKit
set_option linter.unusedVariables false
set_option linter.unusedSimpArgs false

abbrev chV (c : Ch) : Value := .agg #[.int .i64 c.k, .int .i64 c.v, .int .i64 c.w]
def flatC (cs : List Ch) : List Value := cs.flatMap (fun c => [.int .i64 c.k, .int .i64 c.v, .int .i64 c.w])
theorem flatC_len (cs : List Ch) : (flatC cs).length = cs.length * 3 := by
  induction cs with
  | nil => rfl
  | cons c cs ih => rw [flatC, List.flatMap_cons, List.length_append]; rw [flatC] at ih; rw [ih, List.length_cons]; simp; omega
theorem flatC_app (a b : List Ch) : flatC (a ++ b) = flatC a ++ flatC b := by simp [flatC]
theorem flatC_at (cs : List Ch) : ∀ j, j < cs.length → (flatC cs)[j * 3]? = some (.int .i64 (cs.getD j c0).k) ∧ (flatC cs)[j * 3 + 1]? = some (.int .i64 (cs.getD j c0).v) ∧ (flatC cs)[j * 3 + 2]? = some (.int .i64 (cs.getD j c0).w) := by
  induction cs with
  | nil => intro j h; simp at h
  | cons t ts ih =>
    intro j h
    cases j with
    | zero => exact ⟨rfl, rfl, rfl⟩
    | succ j =>
      have := ih j (by simpa using h)
      have e : flatC (t :: ts) = .int .i64 t.k :: .int .i64 t.v :: .int .i64 t.w :: flatC ts := rfl
      rw [e, show (j + 1) * 3 = j * 3 + 1 + 1 + 1 by omega]
      simpa using this
theorem flatC_one (cs : List Ch) : ∀ u ∈ flatC cs, u.oneCell' = true := by
  intro u hu
  simp only [flatC, List.mem_flatMap] at hu
  obtain ⟨t, _, h⟩ := hu
  simp at h
  rcases h with rfl | rfl | rfl <;> rfl

/-- A slice of choices. -/
theorem Rds.at_C {ok : Nat → Prop} {w : World} {v : Value} {m : Nat} {cs : List Ch} (h : Rds ok w v 3 m (flatC cs)) : cs.length = m ∧ ∃ A c, v = .slice A m c ∧ m ≤ c ∧ (0 < m → ∃ b o, A = some ⟨b, o, none⟩ ∧ b < w.heap.size ∧ ∀ j, j < m → w.cell? ⟨b, o + j * 3, none⟩ = some (.int .i64 (cs.getD j c0).k) ∧ w.cell? ⟨b, o + j * 3 + 1, none⟩ = some (.int .i64 (cs.getD j c0).v) ∧ w.cell? ⟨b, o + j * 3 + 2, none⟩ = some (.int .i64 (cs.getD j c0).w)) := by
  have hlen : cs.length = m := by have := h.1; rw [flatC_len] at this; omega
  obtain ⟨hl, A, c, rfl, hmc, hA⟩ := h
  refine ⟨hlen, A, c, rfl, hmc, fun hm => ?_⟩
  obtain ⟨b, o, rfl, hok, hlt, hc⟩ := hA.resolve_left (by omega)
  refine ⟨b, o, rfl, hlt, fun j hj => ?_⟩
  obtain ⟨h1, h2, h3⟩ := flatC_at cs j (by omega)
  exact ⟨hc _ _ h1, hc _ _ h2, hc _ _ h3⟩

set_option maxHeartbeats 1000000 in
theorem p_check (c : Ch) (w : World) : Calls Try.prog 12 #[chV c] w fun e w' => e = .returned (.int .i64 (chk c)) ∧ Keeps (fun _ => False) w w' := by
  have hk0 : ∀ o, Keeps (fun _ => False) w (w.alloc o) := fun o => (Keeps.refl _ _).alloc o
  by_cases h0 : c.k = 0
  · have hb0 : (c.k == 0) = true := by simpa using h0
    have hb1 : (c.k == 1) = false := by simp; omega
    have e := chk_pick h0
    clear h0
    obtain ⟨k, v, x⟩ := c
    dsimp only at *
    by_cases h1 : v < 0
    · rw [e, if_pos (.inl h1)]
      go_enter Try.func12, Try.ntmps12
      go_wp2
      go_ret
      exact ⟨rfl, hk0 _⟩
    · by_cases h2 : 255 < v
      · rw [e, if_pos (.inr (.inl h2))]
        go_enter Try.func12, Try.ntmps12
        go_wp2
        go_ret
        exact ⟨rfl, hk0 _⟩
      · by_cases h3 : x < 0
        · rw [e, if_pos (.inr (.inr (.inl h3)))]
          go_enter Try.func12, Try.ntmps12
          go_wp2
          go_ret
          exact ⟨rfl, hk0 _⟩
        · by_cases h4 : 255 < x
          · rw [e, if_pos (.inr (.inr (.inr h4)))]
            go_enter Try.func12, Try.ntmps12
            go_wp2
            go_ret
            exact ⟨rfl, hk0 _⟩
          · rw [e, if_neg (by omega)]
            go_enter Try.func12, Try.ntmps12
            go_wp2
            go_ret
            exact ⟨rfl, hk0 _⟩
  · by_cases h1' : c.k = 1
    · have hb0 : (c.k == 0) = false := by simp; omega
      have hb1 : (c.k == 1) = true := by simpa using h1'
      have e := chk_tick h1'
      clear h0 h1'
      obtain ⟨k, v, x⟩ := c
      dsimp only at *
      by_cases h1 : v < 0
      · rw [e, if_pos (.inl h1)]
        go_enter Try.func12, Try.ntmps12
        go_wp2
        go_ret
        exact ⟨rfl, hk0 _⟩
      · by_cases h2 : 65535 < v
        · rw [e, if_pos (.inr (.inl h2))]
          go_enter Try.func12, Try.ntmps12
          go_wp2
          go_ret
          exact ⟨rfl, hk0 _⟩
        · by_cases h3 : x < 0
          · rw [e, if_pos (.inr (.inr (by omega)))]
            go_enter Try.func12, Try.ntmps12
            go_wp2
            go_ret
            exact ⟨rfl, hk0 _⟩
          · by_cases h4 : 0 < x
            · rw [e, if_pos (.inr (.inr (by omega)))]
              go_enter Try.func12, Try.ntmps12
              go_wp2
              go_ret
              exact ⟨rfl, hk0 _⟩
            · rw [e, if_neg (by omega)]
              go_enter Try.func12, Try.ntmps12
              go_wp2
              go_ret
              exact ⟨rfl, hk0 _⟩
    · have hb0 : (c.k == 0) = false := by simpa using h0
      have hb1 : (c.k == 1) = false := by simpa using h1'
      rw [chk_kind (by omega)]
      obtain ⟨k, v, x⟩ := c
      dsimp only at *
      go_enter Try.func12, Try.ntmps12
      go_wp2
      go_ret
      exact ⟨rfl, hk0 _⟩

set_option maxHeartbeats 1000000 in
theorem r_check (c : Ch) (w : World) : Calls Try.prog 13 #[chV c] w fun e w' => e = .returned (.int .i64 (chk c)) ∧ Keeps (fun _ => False) w w' := by
  have hk0 : ∀ o, Keeps (fun _ => False) w (w.alloc o) := fun o => (Keeps.refl _ _).alloc o
  by_cases h0 : c.k = 0
  · have e := chk_pick h0
    obtain ⟨k, v, x⟩ := c
    dsimp only at *
    subst h0
    by_cases h1 : v < 0
    · rw [e, if_pos (.inl h1)]
      go_enter Try.func13, Try.ntmps13
      go_wp2
      go_ret
      exact ⟨rfl, hk0 _⟩
    · by_cases h2 : 255 < v
      · rw [e, if_pos (.inr (.inl h2))]
        go_enter Try.func13, Try.ntmps13
        go_wp2
        go_ret
        exact ⟨rfl, hk0 _⟩
      · by_cases h3 : x < 0
        · rw [e, if_pos (.inr (.inr (.inl h3)))]
          go_enter Try.func13, Try.ntmps13
          go_wp2
          go_ret
          exact ⟨rfl, hk0 _⟩
        · by_cases h4 : 255 < x
          · rw [e, if_pos (.inr (.inr (.inr h4)))]
            go_enter Try.func13, Try.ntmps13
            go_wp2
            go_ret
            exact ⟨rfl, hk0 _⟩
          · rw [e, if_neg (by omega)]
            go_enter Try.func13, Try.ntmps13
            go_wp2
            go_ret
            exact ⟨rfl, hk0 _⟩
  · by_cases h1' : c.k = 1
    · have e := chk_tick h1'
      clear h0
      obtain ⟨k, v, x⟩ := c
      dsimp only at *
      subst h1'
      by_cases h1 : v < 0
      · rw [e, if_pos (.inl h1)]
        go_enter Try.func13, Try.ntmps13
        go_wp2
        go_ret
        exact ⟨rfl, hk0 _⟩
      · by_cases h2 : 65535 < v
        · rw [e, if_pos (.inr (.inl h2))]
          go_enter Try.func13, Try.ntmps13
          go_wp2
          go_ret
          exact ⟨rfl, hk0 _⟩
        · by_cases h3 : x = 0
          · rw [e, if_neg (by omega)]
            have hx : (x != 0) = false := by simpa using h3
            clear h3
            go_enter Try.func13, Try.ntmps13
            go_wp2
            go_ret
            exact ⟨rfl, hk0 _⟩
          · rw [e, if_pos (.inr (.inr h3))]
            have hx : (x != 0) = true := by simpa using h3
            clear h3
            go_enter Try.func13, Try.ntmps13
            go_wp2
            go_ret
            exact ⟨rfl, hk0 _⟩
    · have e := chk_kind (c := c) (by omega)
      rw [e]
      obtain ⟨k, v, x⟩ := c
      dsimp only at *
      by_cases hk : k < 0
      · go_enter Try.func13, Try.ntmps13
        go_wp2
        go_ret
        exact ⟨rfl, hk0 _⟩
      · have hk1 : 1 < k := by omega
        go_enter Try.func13, Try.ntmps13
        go_wp2
        go_ret
        exact ⟨rfl, hk0 _⟩
end Go.Proofs.Ytbfdiejcbiocpaa
