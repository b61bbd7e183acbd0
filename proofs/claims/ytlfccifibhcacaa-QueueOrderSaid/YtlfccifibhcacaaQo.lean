/- QueueOrder in plain Lean: what the four queues hold while the numbers are pushed, and popped. -/
import Derived.Test.YtlfccifibhcacaaQh
namespace Go.Proofs.Ytlfccifibhcacaa
set_option linter.unusedVariables false
set_option linter.unusedSimpArgs false

section
variable (d0 d1 : Nat → Nat)

/-- The numbers of queue q among those from k on, m of them. -/
def filR (q : Nat) : Nat → Nat → List Int
  | _, 0 => []
  | k, m + 1 => (if d0 k % 4 = q then [(d1 k : Int)] else []) ++ filR q (k + 1) m

theorem filR_snoc (q : Nat) : ∀ (m k : Nat), filR d0 d1 q k (m + 1) = filR d0 d1 q k m ++ (if d0 (k + m) % 4 = q then [(d1 (k + m) : Int)] else [])
  | 0, k => by simp [filR]
  | m + 1, k => by
    rw [filR, filR_snoc q m (k + 1), filR, List.append_assoc]
    rw [show k + 1 + m = k + (m + 1) by omega]

def four (f : Nat → List Int) : List (List Int) := [f 0, f 1, f 2, f 3]
theorem four_len (f : Nat → List Int) : (four f).length = 4 := rfl
theorem four_at (f : Nat → List Int) (q : Nat) (h : q < 4) : (four f).getD q [] = f q := by
  match q, h with
  | 0, _ => rfl
  | 1, _ => rfl
  | 2, _ => rfl
  | 3, _ => rfl
theorem four_set (f : Nat → List Int) (q : Nat) (l : List Int) (h : q < 4) : (four f).set q l = four (fun k => if k = q then l else f k) := by
  match q, h with
  | 0, _ => rfl
  | 1, _ => rfl
  | 2, _ => rfl
  | 3, _ => rfl
theorem four_congr {f h : Nat → List Int} (e : ∀ q, q < 4 → f q = h q) : four f = four h := by
  simp only [four]; rw [e 0 (by omega), e 1 (by omega), e 2 (by omega), e 3 (by omega)]
theorem four_isQ (f : Nat → List Int) (q : Nat) (h : q < 4) : isQ (four f) (q : Int) = true := isQ_mk (by rw [four_len]; exact h)

def pushed (k : Nat) : List (List Int) := four (fun q => filR d0 d1 q 0 k)
def left (n q k : Nat) : List (List Int) := four (fun q' => if q' < q then [] else if q' = q then filR d0 d1 q k (n - k) else filR d0 d1 q' 0 n)

theorem pushed_sum : ∀ k, (filR d0 d1 0 0 k).length + (filR d0 d1 1 0 k).length + (filR d0 d1 2 0 k).length + (filR d0 d1 3 0 k).length = k
  | 0 => rfl
  | k + 1 => by
    have ih := pushed_sum k
    rw [filR_snoc, filR_snoc, filR_snoc, filR_snoc]
    simp only [List.length_append, Nat.zero_add]
    have h4 : d0 k % 4 < 4 := Nat.mod_lt _ (by omega)
    have : d0 k % 4 = 0 ∨ d0 k % 4 = 1 ∨ d0 k % 4 = 2 ∨ d0 k % 4 = 3 := by omega
    rcases this with e | e | e | e <;> simp [e] <;> omega

theorem pushed_free (k : Nat) : freeQ 60 (pushed d0 d1 k) = 60 - (k : Int) := by
  have := pushed_sum d0 d1 k
  simp only [freeQ, pushed, four, List.length_cons, List.length_nil, sumQ, List.getD_cons_zero, List.getD_cons_succ]
  omega

theorem pushed_push (k : Nat) (hk : k < 60) (q : Int) (hq : q = ((d0 k % 4 : Nat) : Int)) : pushQe 60 (pushed d0 d1 k) q = 0 ∧ pushQs 60 (pushed d0 d1 k) q (d1 k : Int) = pushed d0 d1 (k + 1) := by
  subst hq
  have h4 : d0 k % 4 < 4 := Nat.mod_lt _ (by omega)
  have hi := four_isQ (fun q => filR d0 d1 q 0 k) (d0 k % 4) h4
  have hf : freeQ 60 (pushed d0 d1 k) ≠ 0 := by rw [pushed_free]; omega
  rw [pushQe, pushQs, if_pos (show isQ (pushed d0 d1 k) _ = true from hi), if_neg hf, if_pos ⟨hi, hf⟩]
  refine ⟨rfl, ?_⟩
  rw [Int.toNat_natCast, qAt_nat, pushed, four_at _ _ h4, four_set _ _ _ h4, pushed]
  refine four_congr (fun q hq => ?_)
  rw [filR_snoc, Nat.zero_add]
  by_cases e : q = d0 k % 4
  · subst e; rw [if_pos rfl, if_pos rfl]
  · rw [if_neg e, if_neg (fun x => e x.symm), List.append_nil]

theorem left_start (n : Nat) : pushed d0 d1 n = left d0 d1 n 0 0 := four_congr (fun q hq => by
  rw [if_neg (by omega)]
  split
  · rename_i e; subst e; rfl
  · rfl)

theorem left_next (n q : Nat) : left d0 d1 n q n = left d0 d1 n (q + 1) 0 := four_congr (fun q' hq => by
  by_cases h1 : q' < q
  · rw [if_pos h1, if_pos (by omega)]
  · by_cases h2 : q' = q
    · rw [if_neg h1, if_pos h2, if_pos (by omega), Nat.sub_self]; rfl
    · rw [if_neg h1, if_neg h2, if_neg (by omega)]
      split
      · rename_i e; subst e; rfl
      · rfl)

theorem left_skip (n q k : Nat) (hk : k < n) (h : d0 k % 4 ≠ q) : left d0 d1 n q (k + 1) = left d0 d1 n q k := four_congr (fun q' hq => by
  by_cases h2 : q' = q
  · subst h2
    have hlt : ¬ q' < q' := by omega
    simp only [if_neg hlt, if_pos]
    rw [show n - k = (n - (k + 1)) + 1 by omega, filR, if_neg h, List.nil_append]
  · rw [if_neg h2, if_neg h2])

theorem left_at (n q k : Nat) (hq : q < 4) : isQ (left d0 d1 n q k) (q : Int) = true ∧ qAt (left d0 d1 n q k) (q : Int) = filR d0 d1 q k (n - k) := by
  refine ⟨four_isQ _ _ hq, ?_⟩
  rw [qAt_nat, left, four_at _ _ hq, if_neg (by omega), if_pos rfl]

theorem left_pop (n q k : Nat) (hq : q < 4) (hk : k < n) (h : d0 k % 4 = q) : popQe (left d0 d1 n q k) q = 0 ∧ popQx (left d0 d1 n q k) q = (d1 k : Int) ∧ popQs (left d0 d1 n q k) q = left d0 d1 n q (k + 1) := by
  obtain ⟨h1, h2⟩ := left_at d0 d1 n q k hq
  have e : filR d0 d1 q k (n - k) = (d1 k : Int) :: filR d0 d1 q (k + 1) (n - (k + 1)) := by
    rw [show n - k = (n - (k + 1)) + 1 by omega, filR, if_pos h]; rfl
  rw [popQe, popQx, popQs, if_pos h1, if_pos h1, if_pos h1, h2, e, if_neg (by simp)]
  refine ⟨rfl, rfl, ?_⟩
  rw [Int.toNat_natCast, left, four_set _ _ _ hq, left]
  refine four_congr (fun q' hq' => ?_)
  by_cases h3 : q' = q
  · rw [if_pos h3, if_neg (by omega), if_pos h3]; rfl
  · rw [if_neg h3, if_neg h3, if_neg h3]

theorem left_end (n q : Nat) (hq : q < 4) : popQe (left d0 d1 n q n) q = 11 ∧ popQs (left d0 d1 n q n) q = left d0 d1 n q n := by
  obtain ⟨h1, h2⟩ := left_at d0 d1 n q n hq
  rw [Nat.sub_self] at h2
  rw [popQe, popQs, if_pos h1, if_pos h1, h2]
  refine ⟨rfl, ?_⟩
  rw [Int.toNat_natCast, left, four_set _ _ _ hq]
  refine four_congr (fun q' hq' => ?_)
  by_cases h3 : q' = q
  · rw [if_pos h3, if_neg (by omega), if_pos h3, Nat.sub_self]; rfl
  · rw [if_neg h3]

theorem left_free (n : Nat) : freeQ 60 (left d0 d1 n 4 0) = 60 := rfl
end
end Go.Proofs.Ytlfccifibhcacaa
