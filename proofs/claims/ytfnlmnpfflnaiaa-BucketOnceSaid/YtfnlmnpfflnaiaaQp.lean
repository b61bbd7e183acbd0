/- Chains of nodes, in plain Lean: what hanging a node behind a line, and taking one out of it, makes of its chain. -/
import Derived.KernelRfl
namespace Go.Proofs.Ytfnlmnpfflnaiaa
set_option linter.unusedVariables false
set_option linter.unusedSimpArgs false

def upd (f : Nat → Int) (i : Nat) (v : Int) : Nat → Int := fun k => if k = i then v else f k
theorem upd_same (f : Nat → Int) (i : Nat) (v : Int) : upd f i v i = v := by simp [upd]
theorem upd_ne (f : Nat → Int) {i k : Nat} (v : Int) (h : k ≠ i) : upd f i v k = f k := by simp [upd, h]

/-- From f on, by the nexts, come just these nodes. -/
def Chain (nx : Nat → Int) : Int → List Nat → Prop
  | f, [] => f = -1
  | f, i :: is => f = (i : Int) ∧ Chain nx (nx i) is

def lastI : List Nat → Int
  | [] => -1
  | [i] => (i : Int)
  | _ :: j :: is => lastI (j :: is)

theorem lastI_snoc (is : List Nat) (i : Nat) : lastI (is ++ [i]) = (i : Int) := by
  induction is with
  | nil => rfl
  | cons a is ih => cases is with
    | nil => rfl
    | cons b is => exact ih

theorem lastI_cons {i : Nat} {is : List Nat} (h : is ≠ []) : lastI (i :: is) = lastI is := by
  cases is with
  | nil => exact absurd rfl h
  | cons b is => rfl

theorem lastI_mem {is : List Nat} (h : is ≠ []) : ∃ l, l ∈ is ∧ lastI is = (l : Int) := by
  induction is with
  | nil => exact absurd rfl h
  | cons a is ih =>
    cases is with
    | nil => exact ⟨a, by simp, rfl⟩
    | cons b is =>
      obtain ⟨l, h1, h2⟩ := ih (by simp)
      exact ⟨l, List.mem_cons_of_mem _ h1, h2⟩

theorem Chain.congr {nx nx' : Nat → Int} : ∀ {is : List Nat} {f : Int}, Chain nx f is → (∀ j ∈ is, nx' j = nx j) → Chain nx' f is
  | [], _, h, _ => h
  | i :: is, f, ⟨h1, h2⟩, hn => ⟨h1, by rw [hn i (by simp)]; exact Chain.congr h2 (fun j hj => hn j (List.mem_cons_of_mem _ hj))⟩

theorem Chain.first {nx : Nat → Int} {is : List Nat} {f : Int} (h : Chain nx f is) : is = [] ∧ f = -1 ∨ ∃ i r, is = i :: r ∧ f = (i : Int) ∧ Chain nx (nx i) r := by
  cases is with
  | nil => exact .inl ⟨rfl, h⟩
  | cons i r => exact .inr ⟨i, r, rfl, h.1, h.2⟩

theorem Chain.snoc {nx : Nat → Int} {l i : Nat} : ∀ {as : List Nat} {f : Int}, Chain nx f (as ++ [l]) → (as ++ [l]).Nodup → i ∉ as ++ [l] → Chain (upd (upd nx i (-1)) l i) f (as ++ [l] ++ [i])
  | [], f, ⟨h1, _⟩, _, hi => by
    refine ⟨h1, ?_, ?_⟩
    · rw [upd_same]
    · have hne : i ≠ l := by intro e; exact hi (by simp [e])
      show upd (upd nx i (-1)) l i i = -1
      rw [upd_ne _ _ hne, upd_same]
  | a :: as, f, ⟨h1, h2⟩, hnd, hi => by
    simp only [List.cons_append, List.nodup_cons, List.mem_cons, not_or] at hnd hi
    refine ⟨h1, ?_⟩
    have hal : a ≠ l := by intro e; exact hnd.1 (by simp [e])
    rw [upd_ne _ _ hal, upd_ne _ _ (fun e => hi.1 e.symm)]
    exact Chain.snoc h2 hnd.2 hi.2

theorem Chain.one {nx : Nat → Int} (i : Nat) : Chain (upd nx i (-1)) (i : Int) [i] := ⟨rfl, by show upd nx i (-1) i = -1; rw [upd_same]⟩

/-- Taking the node behind a out. -/
theorem Chain.skip {nx : Nat → Int} {a i : Nat} {bs : List Nat} : ∀ {as : List Nat} {f : Int}, Chain nx f (as ++ a :: i :: bs) → (as ++ a :: i :: bs).Nodup → Chain (upd nx a (nx i)) f (as ++ a :: bs)
  | [], f, ⟨h1, _, h3⟩, hnd => by
    refine ⟨h1, ?_⟩
    rw [upd_same]
    simp only [List.nil_append, List.nodup_cons, List.mem_cons, not_or] at hnd
    exact h3.congr (fun j hj => upd_ne _ _ (fun e => hnd.1.2 (e ▸ hj)))
  | b :: as, f, ⟨h1, h2⟩, hnd => by
    simp only [List.cons_append, List.nodup_cons, List.mem_append, List.mem_cons, not_or] at hnd
    refine ⟨h1, ?_⟩
    rw [upd_ne _ _ hnd.1.2.1]
    exact Chain.skip h2 hnd.2

theorem Chain.at_ {nx : Nat → Int} {a i : Nat} {bs : List Nat} : ∀ {as : List Nat} {f : Int}, Chain nx f (as ++ a :: i :: bs) → nx a = (i : Int)
  | [], _, ⟨_, h, _⟩ => h
  | _ :: as, _, ⟨_, h⟩ => Chain.at_ (as := as) h

theorem Chain.rest {nx : Nat → Int} {i : Nat} {bs : List Nat} : ∀ {as : List Nat} {f : Int}, Chain nx f (as ++ i :: bs) → Chain nx (nx i) bs
  | [], _, ⟨_, h⟩ => h
  | _ :: as, _, ⟨_, h⟩ => Chain.rest (as := as) h


/-- The last node of a line, behind the taking of node i. -/
def relast (La : Nat → Int) (k i : Nat) (v : Int) : Nat → Int := if La k = (i : Int) then upd La k v else La

def updL (I : Nat → List Nat) (k : Nat) (l : List Nat) : Nat → List Nat := fun j => if j = k then l else I j
theorem updL_same (I : Nat → List Nat) (k : Nat) (l : List Nat) : updL I k l k = l := by simp [updL]
theorem updL_ne (I : Nat → List Nat) {k j : Nat} (l : List Nat) (h : j ≠ k) : updL I k l j = I j := by simp [updL, h]

theorem lastI_append (as : List Nat) (b : Nat) (bs : List Nat) : lastI (as ++ b :: bs) = lastI (b :: bs) := by
  induction as with
  | nil => rfl
  | cons a as ih => rw [List.cons_append, lastI_cons (by simp), ih]

/-- The lines, node by node. -/
structure Lines (R Q : Nat) (nx F La M : Nat → Int) (I : Nat → List Nat) : Prop where
  chain : ∀ k, k ≤ Q → Chain nx (F k) (I k)
  last : ∀ k, k ≤ Q → La k = lastI (I k)
  many : ∀ k, k ≤ Q → M k = ((I k).length : Int)
  nodup : ∀ k, k ≤ Q → (I k).Nodup
  lt : ∀ k, k ≤ Q → ∀ j ∈ I k, j < R
  apart : ∀ k k', k ≤ Q → k' ≤ Q → k ≠ k' → ∀ j ∈ I k, j ∉ I k'

namespace Lines
variable {R Q : Nat} {nx F La M : Nat → Int} {I : Nat → List Nat} {k i : Nat}

theorem relast_ok {La : Nat → Int} {k i k' : Nat} {v : Int} (h : k' ≠ k) : relast La k i v k' = La k' := by
  unfold relast; split
  · exact upd_ne _ _ h
  · rfl

theorem relast_hit {La : Nat → Int} {k i : Nat} {v : Int} (h : La k = (i : Int)) : relast La k i v k = v := by unfold relast; rw [if_pos h, upd_same]
theorem relast_miss {La : Nat → Int} {k i : Nat} {v : Int} (h : La k ≠ (i : Int)) : relast La k i v k = La k := by unfold relast; rw [if_neg h]

theorem take0 (h : Lines R Q nx F La M I) (hk : k ≤ Q) {is : List Nat} (hI : I k = i :: is) :
    F k = (i : Int) ∧ i < R ∧ M k = (is.length : Int) + 1 ∧ Lines R Q nx (upd F k (nx i)) (relast La k i (-1)) (upd M k is.length) (updL I k is) ∧ ∀ k', k' ≤ Q → i ∉ updL I k is k' := by
  have hc := h.chain k hk
  have hl := h.last k hk
  have hn := h.nodup k hk
  have hlt := h.lt k hk
  have hm := h.many k hk
  rw [hI] at hc hl hn hlt hm
  simp only [List.nodup_cons] at hn
  refine ⟨hc.1, hlt i (by simp), by simpa using hm, ⟨fun k' hk' => ?_, fun k' hk' => ?_, fun k' hk' => ?_, fun k' hk' => ?_, fun k' hk' => ?_, fun a b ha hb hab => ?_⟩, fun k' hk' => ?_⟩
  · by_cases e : k' = k
    · subst e; rw [upd_same, updL_same]; exact hc.2
    · rw [upd_ne _ _ e, updL_ne _ _ e]; exact h.chain k' hk'
  · by_cases e : k' = k
    · subst e
      rw [updL_same]
      cases is with
      | nil => rw [relast_hit hl]; rfl
      | cons b bs =>
        obtain ⟨l, h1, h2⟩ := lastI_mem (is := b :: bs) (by simp)
        rw [lastI_cons (by simp)] at hl
        rw [relast_miss (by rw [hl, h2]; intro e; exact hn.1 (by rw [← Int.ofNat.inj e]; exact h1)), hl]
    · rw [relast_ok e, updL_ne _ _ e]; exact h.last k' hk'
  · by_cases e : k' = k
    · subst e; rw [upd_same, updL_same]
    · rw [upd_ne _ _ e, updL_ne _ _ e]; exact h.many k' hk'
  · by_cases e : k' = k
    · subst e; rw [updL_same]; exact hn.2
    · rw [updL_ne _ _ e]; exact h.nodup k' hk'
  · by_cases e : k' = k
    · subst e; rw [updL_same]; exact fun j hj => hlt j (by simp [hj])
    · rw [updL_ne _ _ e]; exact h.lt k' hk'
  · have sub : ∀ k', ∀ j ∈ updL I k is k', j ∈ I k' := by
      intro k' j hj
      by_cases e : k' = k
      · subst e; rw [updL_same] at hj; rw [hI]; simp [hj]
      · rwa [updL_ne _ _ e] at hj
    exact fun j hj hj' => h.apart a b ha hb hab j (sub a j hj) (sub b j hj')
  · by_cases e : k' = k
    · subst e; rw [updL_same]; exact hn.1
    · rw [updL_ne _ _ e]; exact h.apart k k' hk hk' (fun x => e x.symm) i (by rw [hI]; simp)

theorem take1 (h : Lines R Q nx F La M I) (hk : k ≤ Q) {as bs : List Nat} {a : Nat} (hI : I k = as ++ a :: i :: bs) :
    nx a = (i : Int) ∧ a < R ∧ i < R ∧ a ≠ i ∧ M k = ((as.length + 1 + bs.length : Nat) : Int) + 1 ∧ Lines R Q (upd nx a (nx i)) F (relast La k i a) (upd M k (as.length + 1 + bs.length : Nat)) (updL I k (as ++ a :: bs)) ∧ ∀ k', k' ≤ Q → i ∉ updL I k (as ++ a :: bs) k' := by
  have hc := h.chain k hk
  have hl := h.last k hk
  have hn := h.nodup k hk
  have hlt := h.lt k hk
  have hm := h.many k hk
  rw [hI] at hc hl hn hlt hm
  have hn' := hn
  rw [List.nodup_append] at hn'
  obtain ⟨hnas, hn2, hdis⟩ := hn'
  simp only [List.nodup_cons, List.mem_cons, not_or] at hn2
  have hai : a ≠ i := hn2.1.1
  have hsub : ∀ k', ∀ j ∈ updL I k (as ++ a :: bs) k', j ∈ I k' := by
    intro k' j hj
    by_cases e : k' = k
    · subst e; rw [updL_same] at hj; rw [hI]; simp at hj ⊢; rcases hj with h | h | h <;> simp [h]
    · rwa [updL_ne _ _ e] at hj
  refine ⟨hc.at_, hlt a (by simp), hlt i (by simp), hai, by rw [hm]; simp; omega, ⟨fun k' hk' => ?_, fun k' hk' => ?_, fun k' hk' => ?_, fun k' hk' => ?_, fun k' hk' j hj => h.lt k' hk' j (hsub k' j hj), fun x y hx hy hxy j hj hj' => h.apart x y hx hy hxy j (hsub x j hj) (hsub y j hj')⟩, fun k' hk' => ?_⟩
  · by_cases e : k' = k
    · subst e; rw [updL_same]; exact hc.skip hn
    · rw [updL_ne _ _ e]
      exact (h.chain k' hk').congr (fun j hj => upd_ne _ _ (fun e' => h.apart k' k hk' hk e j hj (by rw [hI, e']; simp)))
  · by_cases e : k' = k
    · subst e
      rw [updL_same, lastI_append]
      rw [lastI_append, lastI_cons (by simp)] at hl
      cases bs with
      | nil => rw [relast_hit hl]; rfl
      | cons b bs =>
        rw [lastI_cons (by simp)] at hl ⊢
        obtain ⟨l, h1, h2⟩ := lastI_mem (is := b :: bs) (by simp)
        rw [relast_miss (by rw [hl, h2]; intro e; exact hn2.2.1 (by rw [← Int.ofNat.inj e]; exact h1)), hl]
    · rw [relast_ok e, updL_ne _ _ e]; exact h.last k' hk'
  · by_cases e : k' = k
    · subst e; rw [upd_same, updL_same]; simp; omega
    · rw [upd_ne _ _ e, updL_ne _ _ e]; exact h.many k' hk'
  · by_cases e : k' = k
    · subst e
      rw [updL_same]
      rw [List.nodup_append]
      refine ⟨hnas, ?_, fun x hx y hy => hdis x hx y (by simp at hy ⊢; rcases hy with h | h <;> simp [h])⟩
      simp only [List.nodup_cons]
      exact ⟨hn2.1.2, hn2.2.2⟩
    · rw [updL_ne _ _ e]; exact h.nodup k' hk'
  · by_cases e : k' = k
    · subst e
      rw [updL_same]
      intro hi
      simp only [List.mem_append, List.mem_cons] at hi
      rcases hi with hi | hi | hi
      · exact hdis i hi i (by simp) rfl
      · exact hai hi.symm
      · exact hn2.2.1 hi
    · rw [updL_ne _ _ e]; exact h.apart k k' hk hk' (fun x => e x.symm) i (by rw [hI]; simp)

theorem hang_common (h : Lines R Q nx F La M I) (hk : k ≤ Q) (hi : i < R) (hout : ∀ k', k' ≤ Q → i ∉ I k') {nx' F' : Nat → Int} {m : Int} (hm : m = ((I k).length : Int) + 1)
    (hF : ∀ k', k' ≠ k → F' k' = F k') (hc : Chain nx' (F' k) (I k ++ [i])) (hnx : ∀ j, j ≠ i → j ∉ I k → nx' j = nx j) :
    Lines R Q nx' F' (upd La k i) (upd M k m) (updL I k (I k ++ [i])) := by
  have mem : ∀ k', k' ≠ k → updL I k (I k ++ [i]) k' = I k' := fun k' e => updL_ne _ _ e
  refine ⟨fun k' hk' => ?_, fun k' hk' => ?_, fun k' hk' => ?_, fun k' hk' => ?_, fun k' hk' => ?_, fun x y hx hy hxy => ?_⟩
  · by_cases e : k' = k
    · subst e; rw [updL_same]; exact hc
    · rw [updL_ne _ _ e, hF k' e]
      exact (h.chain k' hk').congr (fun j hj => hnx j (fun e' => hout k' hk' (e' ▸ hj)) (h.apart k' k hk' hk e j hj))
  · by_cases e : k' = k
    · subst e; rw [updL_same, upd_same, lastI_snoc]
    · rw [updL_ne _ _ e, upd_ne _ _ e]; exact h.last k' hk'
  · by_cases e : k' = k
    · subst e; rw [updL_same, upd_same, hm]; simp
    · rw [updL_ne _ _ e, upd_ne _ _ e]; exact h.many k' hk'
  · by_cases e : k' = k
    · subst e; rw [updL_same, List.nodup_append]
      exact ⟨h.nodup k' hk, by simp, fun x hx y hy e => hout k' hk (by simp at hy; rw [← hy, ← e]; exact hx)⟩
    · rw [updL_ne _ _ e]; exact h.nodup k' hk'
  · by_cases e : k' = k
    · subst e; rw [updL_same]; intro j hj; simp at hj; rcases hj with hj | rfl
      · exact h.lt k' hk' j hj
      · exact hi
    · rw [updL_ne _ _ e]; exact h.lt k' hk'
  · intro j hj hj'
    by_cases ex : x = k
    · subst ex
      rw [updL_same] at hj
      rw [updL_ne _ _ (fun e => hxy e.symm)] at hj'
      simp at hj
      rcases hj with hj | rfl
      · exact h.apart x y hx hy hxy j hj hj'
      · exact hout y hy hj'
    · rw [updL_ne _ _ ex] at hj
      by_cases ey : y = k
      · subst ey
        rw [updL_same] at hj'
        simp at hj'
        rcases hj' with hj' | rfl
        · exact h.apart x y hx hy hxy j hj hj'
        · exact hout x hx hj
      · rw [updL_ne _ _ ey] at hj'
        exact h.apart x y hx hy hxy j hj hj'

theorem hang0 (h : Lines R Q nx F La M I) (hk : k ≤ Q) (hi : i < R) (hout : ∀ k', k' ≤ Q → i ∉ I k') (hI : I k = []) : Lines R Q (upd nx i (-1)) (upd F k i) (upd La k i) (upd M k 1) (updL I k (I k ++ [i])) :=
  h.hang_common hk hi hout (by rw [hI]; rfl) (fun k' e => upd_ne _ _ e) (by rw [hI, upd_same]; exact Chain.one i) (fun j e _ => upd_ne _ _ e)

theorem hang1 (h : Lines R Q nx F La M I) (hk : k ≤ Q) (hi : i < R) (hout : ∀ k', k' ≤ Q → i ∉ I k') {as : List Nat} {l : Nat} (hI : I k = as ++ [l]) :
    Lines R Q (upd (upd nx i (-1)) l i) F (upd La k i) (upd M k ((as.length : Int) + 2)) (updL I k (I k ++ [i])) :=
  h.hang_common hk hi hout (by rw [hI]; simp; omega) (fun k' e => rfl) (by rw [hI]; exact Chain.snoc (hI ▸ h.chain k hk) (hI ▸ h.nodup k hk) (hI ▸ hout k hk))
    (fun j e hj => by rw [upd_ne _ _ (fun e' => hj (by rw [hI, e']; simp)), upd_ne _ _ e])

end Lines


/-- How many nodes the lines 0 to n have. -/
def sumI (I : Nat → List Nat) : Nat → Nat
  | 0 => (I 0).length
  | n + 1 => sumI I n + (I (n + 1)).length

theorem sumI_out (I : Nat → List Nat) (k : Nat) (l : List Nat) : ∀ n, n < k → sumI (updL I k l) n = sumI I n
  | 0, h => by simp only [sumI]; rw [updL_ne _ _ (by omega)]
  | n + 1, h => by simp only [sumI]; rw [updL_ne _ _ (by omega), sumI_out I k l n (by omega)]

theorem sumI_upd (I : Nat → List Nat) (k : Nat) (l : List Nat) : ∀ n, k ≤ n → sumI (updL I k l) n + (I k).length = sumI I n + l.length
  | 0, h => by
    obtain rfl : k = 0 := by omega
    simp only [sumI]; rw [updL_same]; omega
  | n + 1, h => by
    simp only [sumI]
    by_cases e : k = n + 1
    · subst e; rw [updL_same, sumI_out I _ l n (by omega)]; omega
    · have := sumI_upd I k l n (by omega)
      rw [updL_ne _ _ (by omega)]; omega

theorem le_sumI (I : Nat → List Nat) : ∀ (n k : Nat), k ≤ n → (I k).length ≤ sumI I n
  | 0, k, h => by
    obtain rfl : k = 0 := by omega
    exact Nat.le_refl _
  | n + 1, k, h => by
    simp only [sumI]
    by_cases e : k = n + 1
    · subst e; omega
    · have := le_sumI I n k (by omega); omega

end Go.Proofs.Ytfnlmnpfflnaiaa
