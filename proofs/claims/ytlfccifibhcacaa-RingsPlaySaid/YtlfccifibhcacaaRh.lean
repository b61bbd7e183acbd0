/- A ring that holds a list, whatever its places: all its methods, and the document's, over lists alone. -/
import Derived.Test.YtlfccifibhcacaaRf
import Derived.Outline
namespace Go.Proofs.Ytlfccifibhcacaa
open Go.RowKit
set_option linter.unusedVariables false
set_option linter.unusedSimpArgs false

theorem ring_new' (a : Int) (n : Nat) (w : World) (h : n ≤ 1024) (ha : a = n) :
    Calls Try.prog 8 #[.int .i64 a] w fun e w' => ∃ g s, e = .returned (.tuple #[.pointer (some ⟨g, 0, none⟩), .int .i64 0]) ∧ w.heap.size ≤ g ∧ w.heap.size ≤ s ∧ IsRing w' g s n (List.replicate n 0) 0 0 ∧ Keeps (fun _ => False) w w' := by
  subst ha
  exact (ring_new n w h).mono fun _ _ ⟨h1, h2, h3⟩ => ⟨_, _, h1, by omega, by omega, h2, h3⟩
theorem ring_at' (g s n f m i : Nat) (a : Int) (xs : List Int) (w : World) (h : IsRing w g s n xs f m) (hi : i < m) (ha : a = i) :
    Calls Try.prog 15 #[.pointer (some ⟨g, 0, none⟩), .int .i64 a] w fun e w' => e = .returned (.tuple #[.int .i64 (xs.getD ((f + i) % n) 0), .int .i64 0]) ∧ Keeps (fun _ => False) w w' := by
  subst ha; exact (ring_at g s n f m i xs w h hi).mono fun _ _ ⟨h1, k, h2⟩ => ⟨h1, h2 ▸ (Keeps.refl _ w).drewN k⟩
theorem ring_push_full' (g s n f m : Nat) (xs : List Int) (x : Int) (w : World) (h : IsRing w g s n xs f m) (hm : m = n) :
    Calls Try.prog 13 #[.pointer (some ⟨g, 0, none⟩), .int .i64 x] w fun e w' => e = .returned (.int .i64 10) ∧ Keeps (fun _ => False) w w' :=
  (ring_push_full g s n f m xs x w h hm).mono fun _ _ ⟨h1, k, h2⟩ => ⟨h1, h2 ▸ (Keeps.refl _ w).drewN k⟩
theorem IsRing.still {w w' : World} {g s n f m : Nat} {xs : List Int} (h : IsRing w g s n xs f m) (hk : Keeps (fun _ => False) w w') : IsRing w' g s n xs f m := h.keeps hk (fun x => x) (fun x => x)

set_option maxHeartbeats 400000 in
theorem law7_alive (w : World) :
    Calls Try.prog 7 #[] w fun e w' => e = .returned (.bool true) ∧ Keeps (fun _ => False) w w' := by
  go_enter Try.func7, Try.ntmps7
  go_wp2_with fail
  refine (ring_new' _ 1 _ (by omega) (by rfl)).mono ?_
  rintro e w1 ⟨g, s, rfl, hg, hs, h1, k1⟩
  go_wp2_with fail
  refine (ring_push _ _ _ _ _ _ _ _ h1 (by omega)).mono ?_
  rintro e w2 ⟨rfl, h2, k2⟩
  go_wp2_with fail
  refine (ring_push_full' _ _ _ _ _ _ _ _ h2 (by omega)).mono ?_
  rintro e w3 ⟨rfl, k3⟩
  have h3 := h2.still k3
  go_wp2_with fail
  refine (ring_at' _ _ _ _ _ 0 _ _ _ h3 (by omega) (by rfl)).mono ?_
  rintro e w4 ⟨rfl, k4⟩
  have h4 := h3.still k4
  go_wp2_with fail
  refine (ring_pop _ _ _ _ _ _ _ h4 (by omega)).mono ?_
  rintro e w5 ⟨rfl, h5, k5⟩
  go_wp2_with fail
  refine (ring_pop_empty _ _ _ _ _ _ h5).mono ?_
  rintro e w6 ⟨rfl, rfl⟩
  go_wp2_with fail
  refine (ring_len _ _ _ _ _ _ _ h5).mono ?_
  rintro e w6 ⟨rfl, rfl⟩
  go_wp2_with fail
  refine (ring_room _ _ _ _ _ _ _ h5).mono ?_
  rintro e w6 ⟨rfl, rfl⟩
  go_wp2_with fail
  refine (ring_list0 _ _ _ _ _ _ h5).mono ?_
  rintro e w6 ⟨rfl, rfl⟩
  go_wp2
  go_ret
  exact ⟨rfl, ((((k1.trans k2 (by rintro k hlt (rfl | rfl) <;> omega)).trans' k3).trans' k4).trans k5 (by rintro k hlt (rfl | rfl) <;> omega))⟩

theorem ringL_length (n : Nat) (xs : List Int) (f m : Nat) : (ringL n xs f m).length = m := by simp [ringL]

theorem ringL_push {n f m : Nat} {xs : List Int} (x : Int) (hl : xs.length = n) (hm : m < n) : ringL n (xs.set ((f + m) % n) x) f (m + 1) = ringL n xs f m ++ [x] := by
  have hlt : ∀ a, a % n < n := fun a => Nat.mod_lt _ (by omega)
  apply List.ext_getElem
  · simp [ringL]
  · intro i h1 h2
    simp only [ringL, List.length_map, List.length_range] at h1
    simp only [ringL, List.getElem_map, List.getElem_range]
    rcases Nat.lt_or_ge i m with h3 | h3
    · rw [List.getElem_append_left (by simpa using h3)]
      simp only [List.getElem_map, List.getElem_range]
      have hne : (f + m) % n ≠ (f + i) % n := by
        intro e
        have := Nat.sub_mod_eq_zero_of_mod_eq e
        rw [show f + m - (f + i) = m - i by omega, Nat.mod_eq_of_lt (by omega)] at this
        omega
      simp [List.getD, List.getElem?_set, hne]
    · have : i = m := by omega
      subst this
      rw [List.getElem_append_right (by simp)]
      simp [List.getD, hl, hlt]

theorem ringL_pop {n f m : Nat} {xs : List Int} (hl : xs.length = n) (hm : 0 < m) (hmn : m ≤ n) (hf : f < n) : ringL n xs f m = xs.getD f 0 :: ringL n (xs.set f 0) ((f + 1) % n) (m - 1) := by
  apply List.ext_getElem
  · simp [ringL]; omega
  · intro i h1 h2
    simp only [ringL, List.length_map, List.length_range] at h1
    simp only [ringL, List.getElem_map, List.getElem_range]
    cases i with
    | zero => simp [Nat.mod_eq_of_lt hf]
    | succ i =>
      simp only [List.getElem_cons_succ, List.getElem_map, List.getElem_range]
      have e : ((f + 1) % n + i) % n = (f + (i + 1)) % n := by rw [Nat.mod_add_mod]; congr 1; omega
      rw [e]
      have hne : f ≠ (f + (i + 1)) % n := by
        intro e
        have e2 : (f + (i + 1)) % n = f % n := by rw [← e, Nat.mod_eq_of_lt hf]
        have := Nat.sub_mod_eq_zero_of_mod_eq e2
        rw [show f + (i + 1) - f = i + 1 by omega, Nat.mod_eq_of_lt (by omega)] at this
        omega
      simp [List.getD, List.getElem?_set, hne]

/-- A ring that holds the list l. -/
def Holds7 (w : World) (g s n : Nat) (l : List Int) : Prop := ∃ xs f m, IsRing w g s n xs f m ∧ l = ringL n xs f m

theorem Holds7.len {w : World} {g s n : Nat} {l : List Int} (h : Holds7 w g s n l) : l.length ≤ n := by
  obtain ⟨xs, f, m, h, rfl⟩ := h; rw [ringL_length]; exact h.many
theorem Holds7.room {w : World} {g s n : Nat} {l : List Int} (h : Holds7 w g s n l) : n ≤ 1024 := by
  obtain ⟨xs, f, m, h, rfl⟩ := h; exact h.room
theorem Holds7.keeps {w w' : World} {g s n : Nat} {l : List Int} {S : Nat → Prop} (h : Holds7 w g s n l) (hk : Keeps S w w') (hg : ¬ S g) (hs : ¬ S s) : Holds7 w' g s n l := by
  obtain ⟨xs, f, m, h, rfl⟩ := h; exact ⟨xs, f, m, h.keeps hk hg hs, rfl⟩
theorem Holds7.lt {w : World} {g s n : Nat} {l : List Int} (h : Holds7 w g s n l) : g < w.heap.size ∧ s < w.heap.size := by
  obtain ⟨xs, f, m, h, rfl⟩ := h; exact ⟨blklt h.own, blklt h.all⟩

def pushL (n : Nat) (l : List Int) (x : Int) : List Int := if l.length = n then l else l ++ [x]
def pushE (n : Nat) (l : List Int) : Int := if l.length = n then 10 else 0
def popX (l : List Int) : Int := l.headD 0
def popE (l : List Int) : Int := if l = [] then 11 else 0
def atX (l : List Int) (i : Int) : Int := if i < 0 ∨ (l.length : Int) ≤ i then 0 else l.getD i.toNat 0
def atE (l : List Int) (i : Int) : Int := if i < 0 ∨ (l.length : Int) ≤ i then 8 else 0

theorem h7_push (g s n : Nat) (l : List Int) (x : Int) (w : World) (h : Holds7 w g s n l) :
    Calls Try.prog 13 #[.pointer (some ⟨g, 0, none⟩), .int .i64 x] w fun e w' => e = .returned (.int .i64 (pushE n l)) ∧ Holds7 w' g s n (pushL n l x) ∧ Keeps (fun k => k = g ∨ k = s) w w' := by
  obtain ⟨xs, f, m, h, rfl⟩ := h
  have hmany := h.many
  by_cases hm : m = n
  · refine (ring_push_full' g s n f m xs x w h hm).mono fun e w' ⟨h1, h2⟩ => ⟨?_, ?_, h2.mono (fun _ _ hx => hx.elim)⟩
    · rw [h1, pushE, ringL_length, if_pos hm]
    · rw [pushL, ringL_length, if_pos hm]; exact ⟨xs, f, m, h.still h2, rfl⟩
  · refine (ring_push g s n f m xs x w h (by omega)).mono fun e w' ⟨h1, h2, h3⟩ => ⟨?_, ?_, h3⟩
    · rw [h1, pushE, ringL_length, if_neg hm]
    · rw [pushL, ringL_length, if_neg hm]; exact ⟨_, f, m + 1, h2, (ringL_push x h.len (by omega)).symm⟩

theorem h7_pop (g s n : Nat) (l : List Int) (w : World) (h : Holds7 w g s n l) :
    Calls Try.prog 11 #[.pointer (some ⟨g, 0, none⟩)] w fun e w' => e = .returned (.tuple #[.int .i64 (popX l), .int .i64 (popE l)]) ∧ Holds7 w' g s n l.tail ∧ Keeps (fun k => k = g ∨ k = s) w w' := by
  obtain ⟨xs, f, m, h, rfl⟩ := h
  have hmany := h.many
  cases m with
  | zero =>
    refine (ring_pop_empty g s n f xs w h).mono fun e w' ⟨h1, h2⟩ => ?_
    subst h2
    exact ⟨by rw [h1]; rfl, ⟨xs, f, 0, h, rfl⟩, Keeps.refl _ _⟩
  | succ m =>
    have hf : f < n := by rcases h.from_ with h1 | ⟨_, h2⟩; exact h1; exact absurd h2 (by omega)
    have hp := ringL_pop h.len (Nat.succ_pos m) h.many hf
    refine (ring_pop g s n f (m + 1) xs w h (by omega)).mono fun e w' ⟨h1, h2, h3⟩ => ⟨?_, ?_, h3⟩
    · rw [h1, hp]; rfl
    · rw [hp]; exact ⟨_, _, _, h2, rfl⟩

theorem h7_at (g s n : Nat) (l : List Int) (i : Int) (w : World) (h : Holds7 w g s n l) :
    Calls Try.prog 15 #[.pointer (some ⟨g, 0, none⟩), .int .i64 i] w fun e w' => e = .returned (.tuple #[.int .i64 (atX l i), .int .i64 (atE l i)]) ∧ Keeps (fun _ => False) w w' := by
  obtain ⟨xs, f, m, h, rfl⟩ := h
  by_cases hi : i < 0 ∨ (m : Int) ≤ i
  · refine (ring_at_bad g s n f m xs i w h hi).mono fun e w' ⟨h1, h2⟩ => ?_
    subst h2
    exact ⟨by rw [h1, atX, atE, ringL_length, if_pos hi, if_pos hi], Keeps.refl _ _⟩
  · obtain ⟨j, rfl⟩ := Int.eq_ofNat_of_zero_le (show 0 ≤ i by omega)
    refine (ring_at' g s n f m j _ xs w h (by omega) rfl).mono fun e w' ⟨h1, h2⟩ => ⟨?_, h2⟩
    rw [h1, atX, atE, ringL_length, if_neg hi, if_neg hi]
    simp [ringL, show j < m by omega]

theorem h7_list (g s n : Nat) (l : List Int) (w : World) (h : Holds7 w g s n l) :
    Calls Try.prog 18 #[.pointer (some ⟨g, 0, none⟩)] w fun e w' => ∃ v, e = .returned v ∧ Rds (fun b => w.heap.size ≤ b) w' v 1 l.length (ints l) ∧ Keeps (fun _ => False) w w' := by
  obtain ⟨xs, f, m, h, rfl⟩ := h
  rw [ringL_length]
  cases m with
  | zero =>
    refine (ring_list0 g s n f xs w h).mono fun e w' ⟨h1, h2⟩ => ?_
    subst h2
    exact ⟨_, h1, Rds.nil_ _ _ _ _ _, Keeps.refl _ _⟩
  | succ m =>
    have hmany := h.many
    have hf : f < n := by rcases h.from_ with h1 | ⟨_, h2⟩; exact h1; exact absurd h2 (by omega)
    rcases Nat.lt_or_ge n (f + (m + 1)) with h3 | h3
    · exact ring_list2 g s n f (m + 1) xs w h (by omega) h3 hf
    · exact ring_list1 g s n f (m + 1) xs w h (by omega) h3

theorem h7_len (g s n : Nat) (l : List Int) (w : World) (h : Holds7 w g s n l) :
    Calls Try.prog 19 #[.pointer (some ⟨g, 0, none⟩)] w fun e w' => e = .returned (.int .i64 l.length) ∧ w = w' := by
  obtain ⟨xs, f, m, h, rfl⟩ := h
  rw [ringL_length]; exact ring_len g s n f m xs w h
theorem h7_room (g s n : Nat) (l : List Int) (w : World) (h : Holds7 w g s n l) :
    Calls Try.prog 20 #[.pointer (some ⟨g, 0, none⟩)] w fun e w' => e = .returned (.int .i64 n) ∧ w = w' := by
  obtain ⟨xs, f, m, h, rfl⟩ := h
  exact ring_room g s n f m xs w h
theorem h7_clear (g s n : Nat) (l : List Int) (w : World) (h : Holds7 w g s n l) :
    Calls Try.prog 10 #[.pointer (some ⟨g, 0, none⟩)] w fun e w' => e = .returned (.tuple #[]) ∧ Holds7 w' g s n [] ∧ Keeps (fun k => k = g ∨ k = s) w w' := by
  obtain ⟨xs, f, m, h, rfl⟩ := h
  exact (ring_clear g s n f m xs w h).mono fun e w' ⟨h1, h2, h3⟩ => ⟨h1, ⟨_, 0, 0, h2, rfl⟩, h3⟩

theorem r7_push (n : Nat) (x : Int) (v : Value) (l : List Int) (ok : Nat → Prop) (w : World) (h : Rds ok w v 1 l.length (ints l)) (hl : l.length ≤ n) (hn : n ≤ 1024) :
    Calls Try.prog 14 #[.agg #[.int .i64 n, v], .int .i64 x] w fun e w' => ∃ v', e = .returned (.tuple #[.agg #[.int .i64 n, v'], .int .i64 (pushE n l)]) ∧ Rds (fun b => ok b ∨ w.heap.size ≤ b) w' v' 1 (pushL n l x).length (ints (pushL n l x)) ∧ Keeps (fun _ => False) w w' := by
  by_cases hm : l.length = n
  · obtain ⟨A, c, rfl⟩ := h.slice_
    rw [hm] at h ⊢
    refine (ref7_push_full n x A c w).mono fun e w' ⟨h1, h2⟩ => ⟨.slice A n c, ?_, ?_, h2⟩
    · rw [h1, pushE, if_pos hm]
    · rw [pushL, if_pos hm, hm]; exact (h.keeps h2 (fun _ _ _ x => x)).mono (fun _ h _ => .inl h)
  · refine (ref7_push n l.length x v (ints l) ok w h (ints_one _ _) (by omega) hn).mono fun e w' ⟨v', h1, h2, h3⟩ => ⟨v', ?_, ?_, h3⟩
    · rw [h1, pushE, if_neg hm]
    · rw [pushL, if_neg hm]; simpa using h2.mono (fun _ h _ => .inr h)

theorem r7_pop (n : Int) (v : Value) (l : List Int) (ok : Nat → Prop) (w : World) (h : Rds ok w v 1 l.length (ints l)) :
    Calls Try.prog 12 #[.agg #[.int .i64 n, v]] w fun e w' => ∃ v', e = .returned (.tuple #[.agg #[.int .i64 n, v'], .int .i64 (popX l), .int .i64 (popE l)]) ∧ Rds ok w' v' 1 l.tail.length (ints l.tail) ∧ Keeps (fun _ => False) w w' := by
  cases l with
  | nil =>
    obtain ⟨A, c, rfl⟩ := h.slice_
    exact (ref7_pop_empty n A c w).mono fun e w' ⟨h1, h2⟩ => ⟨_, h1, h.keeps h2 (fun _ _ _ x => x), h2⟩
  | cons x l =>
    exact (ref7_pop n v x l.length l ok w h).mono fun e w' ⟨v', h1, h2, h3⟩ => ⟨v', h1, h2, h3⟩

theorem r7_at (n : Int) (i : Int) (v : Value) (l : List Int) (ok : Nat → Prop) (w : World) (h : Rds ok w v 1 l.length (ints l)) :
    Calls Try.prog 16 #[.agg #[.int .i64 n, v], .int .i64 i] w fun e w' => e = .returned (.tuple #[.int .i64 (atX l i), .int .i64 (atE l i)]) ∧ Keeps (fun _ => False) w w' := by
  by_cases hi : i < 0 ∨ (l.length : Int) ≤ i
  · obtain ⟨A, c, rfl⟩ := h.slice_
    refine (ref7_at_bad n l.length i A c w hi).mono fun e w' ⟨h1, h2⟩ => ⟨?_, h2⟩
    rw [h1, atX, atE, if_pos hi, if_pos hi]
  · obtain ⟨j, rfl⟩ := Int.eq_ofNat_of_zero_le (show 0 ≤ i by omega)
    refine (ref7_at n l.length j v l ok w h (by omega)).mono fun e w' ⟨h1, h2⟩ => ⟨?_, h2⟩
    rw [h1, atX, atE, if_neg hi, if_neg hi]
    rfl
end Go.Proofs.Ytlfccifibhcacaa
