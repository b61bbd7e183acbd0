/- The list of a ring (becket/rings), by its contract. -/
import Derived.Test.YtlfccifibhcacaaRg
import Derived.OwnWalk
namespace Go.Proofs.Ytlfccifibhcacaa
open Go.RowKit
set_option linter.unusedVariables false
set_option linter.unusedSimpArgs false

theorem ints_one (k : IntKind) (l : List Int) : ∀ u ∈ l.map (Value.int k), u.oneCell' = true := by
  intro u hu
  obtain ⟨_, _, rfl⟩ := List.mem_map.1 hu
  rfl

/-- What a ring holds, from its first place on. -/
def ringL (n : Nat) (xs : List Int) (f m : Nat) : List Int := (List.range m).map fun i => xs.getD ((f + i) % n) 0

theorem ringL_split {n f m : Nat} {xs : List Int} (hl : xs.length = n) (hm : m ≤ n) (hf : f < n) (h : n < f + m) : ringL n xs f m = xs.drop f ++ xs.take (f + m - n) := by
  apply List.ext_getElem
  · simp [ringL]; omega
  · intro i h1 h2
    simp only [ringL, List.length_map, List.length_range] at h1
    simp only [ringL, List.getElem_map, List.getElem_range]
    rcases Nat.lt_or_ge (f + i) n with h3 | h3
    · rw [List.getElem_append_left (by simp; omega)]
      simp [List.getD, Nat.mod_eq_of_lt h3, show f + i < xs.length by omega]
    · rw [List.getElem_append_right (by simp; omega)]
      have e : (f + i) % n = f + i - n := by rw [Nat.mod_eq_sub_mod h3, Nat.mod_eq_of_lt (by omega)]
      simp [List.getD, e, show f + i - n < xs.length by omega]
      congr 1; omega

theorem ringL_plain {n f m : Nat} {xs : List Int} (hl : xs.length = n) (h : f + m ≤ n) : ringL n xs f m = (xs.drop f).take m := by
  apply List.ext_getElem
  · simp [ringL]; omega
  · intro i h1 h2
    simp only [ringL, List.length_map, List.length_range] at h1
    simp only [ringL, List.getElem_map, List.getElem_range, List.getElem_take, List.getElem_drop]
    rw [Nat.mod_eq_of_lt (by omega)]
    simp [List.getD, show f + i < xs.length by omega]

theorem IsRing.reads {w : World} {g s n f m : Nat} {xs : List Int} (h : IsRing w g s n xs f m) (o k c : Nat) (hk : o + k ≤ n) (hc : k ≤ c) :
    Rds (fun b => b = s) w (.slice (some ⟨s, o, none⟩) k c) 1 k (((xs.drop o).take k).map (Value.int .i64)) := by
  have hlen := h.len
  refine ⟨by simp; omega, _, c, rfl, hc, .inr ⟨s, o, rfl, rfl, blklt h.all, fun j u hu => ?_⟩⟩
  have hj : j < k := by
    have := (List.getElem?_eq_some_iff.1 hu).1
    simp at this; omega
  rw [h.cx (o + j) (by omega)]
  rw [← hu]
  simp [hj, List.getD, show o + j < xs.length by omega]

set_option maxHeartbeats 400000 in
theorem ring_list0 (g s n f : Nat) (xs : List Int) (w : World) (h : IsRing w g s n xs f 0) :
    Calls Try.prog 18 #[.pointer (some ⟨g, 0, none⟩)] w fun e w' => e = .returned (.slice none 0 0) ∧ w = w' := by
  have c0 := h.c0
  have c3 := h.c3
  clear h
  go_enter Try.func18, Try.ntmps18
  go_wp2_with (go_at_call 42; refine (ring_ok g _ c0).mono ?_; rintro e w' ⟨rfl, rfl⟩)
  go_ret
  exact ⟨rfl, rfl⟩

set_option maxHeartbeats 400000 in
theorem ring_list1 (g s n f m : Nat) (xs : List Int) (w : World) (h : IsRing w g s n xs f m) (hm : 0 < m) (hfit : f + m ≤ n) :
    Calls Try.prog 18 #[.pointer (some ⟨g, 0, none⟩)] w fun e w' => ∃ v, e = .returned v ∧ Rds (fun b => w.heap.size ≤ b) w' v 1 m ((ringL n xs f m).map (Value.int .i64)) ∧ Keeps (fun _ => False) w w' := by
  have c0 := h.c0
  have c1 := h.c1
  have c2 := h.c2
  have c3 := h.c3
  have hm0 : ((m : Int) == 0) = false := by simp; omega
  have hr := h.room
  go_enter Try.func18, Try.ntmps18
  go_wp2_with (go_at_call 42; refine (ring_ok g _ c0).mono ?_; rintro e w' ⟨rfl, rfl⟩)
  refine wp_qall (w0 := w) ⟨0, rfl⟩ (by kernel_rfl) (by kernel_rfl) ?_
  repeat go_big_quiet_step (fail)
  refine wpQuiet_nil (fun nq => ?_)
  go_wp2
  refine wp_qall (w0 := w) ⟨nq, rfl⟩ (by kernel_rfl) (by kernel_rfl) ?_
  repeat go_big_quiet_step (fail)
  refine wpQuiet_nil (fun nr => ?_)
  have hrd := (h.drewN nr).reads f (f + m - f) (f + m - f) (by omega) (Nat.le_refl _)
  go_wp2_with (at_builtin; refine wpList_append_rds _ rfl _ _ 28 rfl w.heap.size 3 (.int .i64 0) 1 8 Try.underlying28 Try.info3 rfl (by decide) (.slice none 0 0) 0 [] rfl (World.ownsRow_nil _ _ _ _) _ _ _ _ rfl hrd ?c1 ?c2 ?c3 ?c4 ?_)
  case c1 => exact ints_one _ _
  case c2 => unfold maxLen; omega
  case c3 => omega
  case c4 => simp
  intro A1 p1 w1 hown1 hgrow1 hat1
  go_wp2_with fail
  have hk1 : Keeps (fun _ => False) w w1 := ((Keeps.refl _ w).drewN nr).grown hgrow1 (fun k hk => by simp [Value.ownBlock] at hk)
  have hR1 := h.keeps hk1 (fun x => x) (fun x => x)
  have d1 := hR1.c1
  have d3 := hR1.c3
  refine wp_qtail (w0 := w1) 13 ⟨0, rfl⟩ (by kernel_rfl) (by kernel_rfl) ?_
  simp only [List.take_succ_cons, List.take_zero, List.drop_succ_cons, List.drop_zero]
  repeat go_big_quiet_step (fail)
  refine wpQuiet_nil (fun nz => ?_)
  have hrd2 := (hR1.drewN nz).reads 0 0 n (by omega) (Nat.zero_le _)
  go_wp2_with (at_builtin; refine wpList_append_rds _ rfl _ _ 28 rfl w.heap.size 3 (.int .i64 0) 1 8 Try.underlying28 Try.info3 rfl (by decide) (.slice A1 m p1) m _ rfl (show (w1.drewN nz).ownsRow _ _ _ _ _ _ from hown1) _ _ 0 _ rfl hrd2 ?e1 ?e2 ?e3 ?e4 ?_)
  case e1 => exact ints_one _ _
  case e2 => unfold maxLen; omega
  case e3 => omega
  case e4 => exact hk1.size
  intro A2 p2 w2 hown2 hgrow2 hat2
  go_wp2_with fail
  go_ret
  have hk2 : Keeps (fun _ => False) w w2 := (hk1.drewN nz).grown hgrow2 (fun k hk hlt => by have := (hown1.lt k hk).1; omega)
  refine ⟨_, rfl, ?_, hk2⟩
  rw [ringL_plain h.len hfit]
  simpa using Rds.own hown2

set_option maxHeartbeats 400000 in
theorem ring_list2 (g s n f m : Nat) (xs : List Int) (w : World) (h : IsRing w g s n xs f m) (hm : 0 < m) (hfit : n < f + m) (hf : f < n) :
    Calls Try.prog 18 #[.pointer (some ⟨g, 0, none⟩)] w fun e w' => ∃ v, e = .returned v ∧ Rds (fun b => w.heap.size ≤ b) w' v 1 m ((ringL n xs f m).map (Value.int .i64)) ∧ Keeps (fun _ => False) w w' := by
  have c0 := h.c0
  have c1 := h.c1
  have c2 := h.c2
  have c3 := h.c3
  have hm0 : ((m : Int) == 0) = false := by simp; omega
  have hr := h.room
  have hmany := h.many
  have hq : ¬ (f + m < n) := by omega
  have hq2 : ¬ ((f : Int) + m < n) := by omega
  have hq3 : (n : Int) < f + m := by omega
  go_enter Try.func18, Try.ntmps18
  go_wp2_with (go_at_call 42; refine (ring_ok g _ c0).mono ?_; rintro e w' ⟨rfl, rfl⟩)
  refine wp_qall (w0 := w) ⟨0, rfl⟩ (by kernel_rfl) (by kernel_rfl) ?_
  repeat go_big_quiet_step (fail)
  refine wpQuiet_nil (fun nq => ?_)
  go_wp2
  refine wp_qall (w0 := w) ⟨nq, rfl⟩ (by kernel_rfl) (by kernel_rfl) ?_
  repeat go_big_quiet_step (fail)
  refine wpQuiet_nil (fun nr => ?_)
  have hrd := (h.drewN nr).reads f (n - f) (n - f) (by omega) (Nat.le_refl _)
  go_wp2_with (at_builtin; refine wpList_append_rds _ rfl _ _ 28 rfl w.heap.size 3 (.int .i64 0) 1 8 Try.underlying28 Try.info3 rfl (by decide) (.slice none 0 0) 0 [] rfl (World.ownsRow_nil _ _ _ _) _ _ _ _ rfl hrd ?c1 ?c2 ?c3 ?c4 ?_)
  case c1 => exact ints_one _ _
  case c2 => unfold maxLen; omega
  case c3 => omega
  case c4 => simp
  intro A1 p1 w1 hown1 hgrow1 hat1
  go_wp2_with fail
  have hk1 : Keeps (fun _ => False) w w1 := ((Keeps.refl _ w).drewN nr).grown hgrow1 (fun k hk => by simp [Value.ownBlock] at hk)
  have hR1 := h.keeps hk1 (fun x => x) (fun x => x)
  have d1 := hR1.c1
  have d3 := hR1.c3
  refine wp_qtail (w0 := w1) 13 ⟨0, rfl⟩ (by kernel_rfl) (by kernel_rfl) ?_
  simp only [List.take_succ_cons, List.take_zero, List.drop_succ_cons, List.drop_zero]
  repeat go_big_quiet_step (fail)
  refine wpQuiet_nil (fun nz => ?_)
  have hrd2 := (hR1.drewN nz).reads 0 (m - (n - f)) n (by omega) (by omega)
  go_wp2_with (at_builtin; refine wpList_append_rds _ rfl _ _ 28 rfl w.heap.size 3 (.int .i64 0) 1 8 Try.underlying28 Try.info3 rfl (by decide) (.slice A1 (n - f) p1) (n - f) _ rfl (show (w1.drewN nz).ownsRow _ _ _ _ _ _ from hown1) _ _ _ _ rfl hrd2 ?e1 ?e2 ?e3 ?e4 ?_)
  case e1 => exact ints_one _ _
  case e2 => unfold maxLen; omega
  case e3 => omega
  case e4 => exact hk1.size
  intro A2 p2 w2 hown2 hgrow2 hat2
  go_wp2_with fail
  go_ret
  have hk2 : Keeps (fun _ => False) w w2 := (hk1.drewN nz).grown hgrow2 (fun k hk hlt => by have := (hown1.lt k hk).1; omega)
  refine ⟨_, rfl, ?_, hk2⟩
  rw [ringL_split h.len hmany hf hfit, show f + m - n = m - (n - f) by omega]
  have e1 : n - f + (m - (n - f)) = m := by omega
  have h3 := Rds.own hown2
  show Rds _ w2 (.slice A2 (n - f + (m - (n - f))) p2) _ _ _
  rw [e1] at h3 ⊢
  rw [List.take_of_length_le (by have := h.len; simp; omega)] at h3
  simpa using h3

end Go.Proofs.Ytlfccifibhcacaa
