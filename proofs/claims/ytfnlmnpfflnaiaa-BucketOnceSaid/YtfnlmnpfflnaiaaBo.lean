/- BucketOnce in plain Lean: when who fell, and into which bucket. -/
import Derived.Test.YtfnlmnpfflnaiaaBb
namespace Go.Proofs.Ytfnlmnpfflnaiaa
open Go.RowKit
set_option linter.unusedVariables false
set_option linter.unusedSimpArgs false

theorem gset (l : List Int) (i j : Nat) (v : Int) (hi : i < l.length) : (l.set i v).getD j 0 = if j = i then v else l.getD j 0 := by
  simp only [List.getD, List.getElem?_set]
  by_cases e : i = j
  · subst e; simp [hi]
  · rw [if_neg e, if_neg (fun x => e x.symm)]
theorem qset (qs : List (List Int)) (k q : Nat) (l : List Int) (hk : k < qs.length) : (qs.set k l).getD q [] = if q = k then l else qs.getD q [] := by
  simp only [List.getD, List.getElem?_set]
  by_cases e : k = q
  · subst e; simp [hk]
  · rw [if_neg e, if_neg (fun x => e x.symm)]

/-- Who fell when (1, 2, ..; 0: tb in no bucket), and into which bucket. -/
structure Once (i : Nat) (bs : List (List Int)) (ta tb : List Int) : Prop where
  four : bs.length = 4
  good : Good bs
  la : ta.length = 16
  li : tb.length = 16
  low : ∀ p, p < 16 → 0 ≤ ta.getD p 0 ∧ ta.getD p 0 ≤ i
  mem : ∀ k, k < 4 → ∀ p : Nat, p < 16 → ((p : Int) ∈ bs.getD k [] ↔ 0 < ta.getD p 0 ∧ tb.getD p 0 = k)
  sorted : ∀ k, k < 4 → (bs.getD k []).Pairwise (fun x y => ta.getD x.toNat 0 < ta.getD y.toNat 0)
  isOk : ∀ p, p < 16 → 0 < ta.getD p 0 → ∃ k : Nat, k < 4 ∧ tb.getD p 0 = k

theorem rep16 (p : Nat) : (List.replicate 16 (0 : Int)).getD p 0 = 0 := by
  rw [List.getD, List.getElem?_replicate]; split <;> rfl

theorem Once.start : Once 0 [[], [], [], []] (List.replicate 16 0) (List.replicate 16 0) := by
  refine ⟨rfl, good_nil 4, rfl, rfl, fun p hp => ?_, fun k hk p hp => ?_, fun k hk => ?_, fun p hp h => ?_⟩
  · rw [rep16]; omega
  · have : ([[], [], [], []] : List (List Int)).getD k [] = [] := by
      have : k = 0 ∨ k = 1 ∨ k = 2 ∨ k = 3 := by omega
      rcases this with rfl | rfl | rfl | rfl <;> rfl
    rw [this, rep16]
    simp
  · have : ([[], [], [], []] : List (List Int)).getD k [] = [] := by
      have : k = 0 ∨ k = 1 ∨ k = 2 ∨ k = 3 := by omega
      rcases this with rfl | rfl | rfl | rfl <;> rfl
    rw [this]; exact List.Pairwise.nil
  · rw [rep16] at h; omega

namespace Once
variable {i : Nat} {bs : List (List Int)} {ta tb : List Int}
theorem mem_flat (h : Once i bs ta tb) {p : Nat} (hp : p < 16) : (p : Int) ∈ bs.flatten ↔ 0 < ta.getD p 0 := by
  constructor
  · intro hm
    obtain ⟨l, hl, hpl⟩ := List.mem_flatten.1 hm
    obtain ⟨j, hj, rfl⟩ := List.getElem_of_mem hl
    exact ((h.mem j (by have := h.four; omega) p hp).1 (by simpa [List.getD, List.getElem?_eq_getElem hj] using hpl)).1
  · intro h0
    obtain ⟨k, hk, e⟩ := h.isOk p hp h0
    have := (h.mem k hk p hp).2 ⟨h0, e⟩
    have hkk : k < bs.length := by have := h.four; omega
    rw [List.getD, List.getElem?_eq_getElem hkk] at this
    exact List.mem_flatten.2 ⟨_, List.getElem_mem hkk, this⟩
theorem small (h : Once i bs ta tb) {k : Nat} (hk : k < 4) {x : Int} (hx : x ∈ bs.getD k []) : ∃ p : Nat, x = p ∧ p < 16 := by
  have hkk : k < bs.length := by have := h.four; omega
  rw [List.getD, List.getElem?_eq_getElem hkk] at hx
  have := h.good.small x (List.mem_flatten.2 ⟨_, List.getElem_mem hkk, hx⟩)
  exact ⟨x.toNat, by omega, by omega⟩

theorem is4 (h : Once i bs ta tb) {k : Nat} (hk : k < 4) : isQ bs (k : Int) = true := isQ_mk (by have := h.four; omega)

theorem fall_yes (h : Once i bs ta tb) {k p : Nat} (hk : k < 4) (hp : p < 16) (h0 : ta.getD p 0 = 0) : fallE bs k p = 0 ∧ Once (i + 1) (fallBs bs k p) (ta.set p (i + 1)) (tb.set p k) := by
  have hpo : pOk (p : Int) = true := by simp [pOk]; omega
  have hnm : (p : Int) ∉ bs.flatten := by rw [h.mem_flat hp]; omega
  have hw : whereB bs p = false := by simpa [whereB] using hnm
  have h4 := h.four
  have hla := h.la
  have hli := h.li
  have hG := h.good.fall k p
  refine ⟨by rw [fallE, if_pos ⟨h.is4 hk, hpo⟩, if_neg (by simp [hw])], ?_⟩
  have hfb : fallBs bs k p = bs.set k (bs.getD k [] ++ [(p : Int)]) := by rw [fallBs, if_pos ⟨h.is4 hk, hpo, hw⟩, Int.toNat_natCast, qAt_nat]
  rw [hfb] at hG ⊢
  have nin : ∀ q, q < 4 → (p : Int) ∉ bs.getD q [] := fun q hq hm => by have := ((h.mem q hq p hp).1 hm).1; omega
  refine ⟨by simpa using h4, hG, by simpa using hla, by simpa using hli, fun q hq => ?_, fun q hq r hr => ?_, fun q hq => ?_, fun q hq hpos => ?_⟩
  · rw [gset _ _ _ _ (by omega)]
    have := h.low q hq
    split <;> omega
  · rw [gset _ _ _ _ (by omega), gset _ _ _ _ (by omega), qset _ _ _ _ (by omega)]
    have hm := h.mem q hq r hr
    by_cases er : r = p
    · subst er
      rw [if_pos rfl, if_pos rfl]
      by_cases eq : q = k
      · subst eq; rw [if_pos rfl]; simp
      · rw [if_neg eq]
        refine ⟨fun hx => absurd hx (nin q hq), fun hx => ?_⟩
        exact absurd hx.2 (by omega)
    · rw [if_neg er, if_neg er, ← hm]
      by_cases eq : q = k
      · subst eq; rw [if_pos rfl]; simp; omega
      · rw [if_neg eq]
  · rw [qset _ _ _ _ (by omega)]
    have hs := h.sorted q hq
    have key : ∀ l : List Int, (∀ x ∈ l, x ∈ bs.getD q []) → l.Pairwise (fun x y => ta.getD x.toNat 0 < ta.getD y.toNat 0) → l.Pairwise (fun x y => (ta.set p ((i : Int) + 1)).getD x.toNat 0 < (ta.set p ((i : Int) + 1)).getD y.toNat 0) := by
      intro l hl hp'
      refine hp'.imp_of_mem (fun {x y} hx hy hxy => ?_)
      obtain ⟨x', rfl, hx'⟩ := h.small hq (hl x hx)
      obtain ⟨y', rfl, hy'⟩ := h.small hq (hl y hy)
      have nx : x' ≠ p := fun e => nin q hq (by rw [← e]; exact hl _ hx)
      have ny : y' ≠ p := fun e => nin q hq (by rw [← e]; exact hl _ hy)
      rw [gset _ _ _ _ (by omega), gset _ _ _ _ (by omega), Int.toNat_natCast, Int.toNat_natCast, if_neg nx, if_neg ny]
      simpa using hxy
    by_cases eq : q = k
    · subst eq
      rw [if_pos rfl, List.pairwise_append]
      refine ⟨key _ (fun _ x => x) hs, List.pairwise_singleton _ _, fun x hx y hy => ?_⟩
      simp at hy; subst hy
      obtain ⟨x', rfl, hx'⟩ := h.small hq hx
      have nx : x' ≠ p := fun e => nin q hq (by rw [← e]; exact hx)
      rw [gset _ _ _ _ (by omega), gset _ _ _ _ (by omega), Int.toNat_natCast, Int.toNat_natCast, if_neg nx, if_pos rfl]
      have := h.low x' hx'
      omega
    · rw [if_neg eq]; exact key _ (fun _ x => x) hs
  · rw [gset _ _ _ _ (by omega)] at hpos
    rw [gset _ _ _ _ (by omega)]
    by_cases er : q = p
    · rw [if_pos er]; exact ⟨k, hk, rfl⟩
    · rw [if_neg er] at hpos ⊢; exact h.isOk q hq hpos

theorem next (h : Once i bs ta tb) : Once (i + 1) bs ta tb :=
  ⟨h.four, h.good, h.la, h.li, fun p hp => ⟨(h.low p hp).1, by have := (h.low p hp).2; omega⟩, h.mem, h.sorted, h.isOk⟩

theorem fall_no (h : Once i bs ta tb) {k p : Nat} (hk : k < 4) (hp : p < 16) (h0 : ta.getD p 0 ≠ 0) : fallE bs k p = 7 ∧ fallBs bs k p = bs := by
  have hpo : pOk (p : Int) = true := by simp [pOk]; omega
  have hnm : (p : Int) ∈ bs.flatten := by rw [h.mem_flat hp]; have := h.low p hp; omega
  have hw : whereB bs p = true := by simpa [whereB] using List.mem_flatten.1 hnm
  exact ⟨by rw [fallE, if_pos ⟨h.is4 hk, hpo⟩, if_pos hw], by rw [fallBs, if_neg (by simp [hw])]⟩
end Once

/-- Those numbers are made 0. -/
def zeros (ta : List Int) (l : List Int) : List Int := l.foldl (fun a q => a.set q.toNat 0) ta
theorem zeros_len (l : List Int) : ∀ ta, (zeros ta l).length = ta.length := by
  induction l with
  | nil => intro ta; rfl
  | cons x l ih => intro ta; show (zeros (ta.set x.toNat 0) l).length = _; rw [ih]; simp
theorem zeros_at (l : List Int) : ∀ ta : List Int, (∀ x ∈ l, ∃ p : Nat, x = p ∧ p < ta.length) → ∀ q : Nat, (zeros ta l).getD q 0 = if (q : Int) ∈ l then 0 else ta.getD q 0 := by
  induction l with
  | nil => intro ta _ q; simp [zeros]
  | cons x l ih =>
    intro ta hs q
    obtain ⟨p, rfl, hp⟩ := hs x (by simp)
    show (zeros (ta.set (p : Int).toNat 0) l).getD q 0 = _
    rw [ih _ (fun y hy => by obtain ⟨p', e, h⟩ := hs y (by simp [hy]); exact ⟨p', e, by simpa using h⟩), gset _ _ _ _ (by simpa using hp), Int.toNat_natCast]
    by_cases e : q = p
    · subst e; simp
    · rw [if_neg e]
      have : (q : Int) ∈ (p : Int) :: l ↔ (q : Int) ∈ l := by simp; intro h; exact absurd (Int.ofNat.inj h) e
      simp only [this]
theorem zeros_snoc (ta : List Int) (l : List Int) (x : Int) : zeros ta (l ++ [x]) = (zeros ta l).set x.toNat 0 := by simp [zeros]

namespace Once
variable {i : Nat} {bs : List (List Int)} {ta tb : List Int}
theorem zat (h : Once i bs ta tb) {k : Nat} (hk : k < 4) (j q : Nat) : (zeros ta ((bs.getD k []).take j)).getD q 0 = if (q : Int) ∈ (bs.getD k []).take j then 0 else ta.getD q 0 :=
  zeros_at _ _ (fun x hx => by obtain ⟨p, e, hp⟩ := h.small hk (List.mem_of_mem_take hx); exact ⟨p, e, by rw [h.la]; exact hp⟩) q

/-- The j-th that tb flushed: what the law reads there. -/
theorem flushed (h : Once i bs ta tb) {k : Nat} (hk : k < 4) {j : Nat} (hj : j < (bs.getD k []).length) :
    ∃ p : Nat, (bs.getD k []).getD j 0 = p ∧ p < 16 ∧ tb.getD p 0 = k ∧ (zeros ta ((bs.getD k []).take j)).getD p 0 = ta.getD p 0 ∧ 0 < ta.getD p 0 ∧ (∀ j' p' : Nat, j' < j → (bs.getD k []).getD j' 0 = p' → ta.getD p' 0 < ta.getD p 0) ∧ zeros ta ((bs.getD k []).take (j + 1)) = (zeros ta ((bs.getD k []).take j)).set p 0 := by
  have hkk : k < bs.length := by have := h.four; omega
  have hm : (bs.getD k [])[j] ∈ bs.getD k [] := List.getElem_mem hj
  have hg : (bs.getD k []).getD j 0 = (bs.getD k [])[j] := by rw [List.getD, List.getElem?_eq_getElem hj]; rfl
  obtain ⟨p, e, hp⟩ := h.small hk hm
  obtain ⟨h1, h2⟩ := (h.mem k hk p hp).1 (e ▸ hm)
  have hs := h.sorted k hk
  have hpw : ∀ j' : Nat, j' < j → ta.getD (((bs.getD k []).getD j' 0).toNat) 0 < ta.getD p 0 := by
    intro j' hj'
    have := List.pairwise_iff_getElem.1 hs j' j (by omega) hj hj'
    rw [e, Int.toNat_natCast] at this
    have hg' : (bs.getD k []).getD j' 0 = (bs.getD k [])[j'] := by rw [List.getD, List.getElem?_eq_getElem (by omega)]; rfl
    rw [hg']; exact this
  refine ⟨p, hg.trans e, hp, h2, ?_, h1, fun j' p' hj' e' => ?_, ?_⟩
  · rw [h.zat hk]
    refine if_neg (fun hmem => ?_)
    obtain ⟨j', hj', e'⟩ := List.getElem_of_mem hmem
    simp only [List.length_take] at hj'
    rw [List.getElem_take] at e'
    have := hpw j' (by omega)
    have hg' : (bs.getD k []).getD j' 0 = (bs.getD k [])[j'] := by rw [List.getD, List.getElem?_eq_getElem (by omega)]; rfl
    rw [hg', e', Int.toNat_natCast] at this
    omega
  · have := hpw j' hj'
    rwa [e', Int.toNat_natCast] at this
  · rw [List.take_succ_eq_append_getElem hj, zeros_snoc, e, Int.toNat_natCast]

theorem flush (h : Once i bs ta tb) {k : Nat} (hk : k < 4) : Once (i + 1) (flushBs bs k) (zeros ta (bs.getD k [])) tb := by
  have hG := h.good.flush k
  have h4 := h.four
  rw [flushBs, if_pos (h.is4 hk), Int.toNat_natCast] at hG ⊢
  have hz : ∀ q : Nat, (zeros ta (bs.getD k [])).getD q 0 = if (q : Int) ∈ bs.getD k [] then 0 else ta.getD q 0 := fun q => by
    have := h.zat hk (bs.getD k []).length q
    rwa [List.take_length] at this
  have hm0 : ∀ q : Nat, q < 16 → (0 < (zeros ta (bs.getD k [])).getD q 0 ↔ 0 < ta.getD q 0 ∧ tb.getD q 0 ≠ k) := by
    intro q hq
    have := h.mem k hk q hq
    rw [hz]
    split
    · rename_i hin; have := this.1 hin; simp; intro _; exact this.2
    · rename_i hin
      have h3 : ¬ (0 < ta.getD q 0 ∧ tb.getD q 0 = k) := fun x => hin (this.2 x)
      constructor
      · intro h0; exact ⟨h0, fun e => h3 ⟨h0, e⟩⟩
      · exact fun x => x.1
  refine ⟨by simpa using h4, hG, by rw [zeros_len]; exact h.la, h.li, fun q hq => ?_, fun q hq r hr => ?_, fun q hq => ?_, fun q hq hpos => ?_⟩
  · rw [hz]; have := h.low q hq; split <;> omega
  · rw [qset _ _ _ _ (by omega), hm0 r hr]
    by_cases e : q = k
    · subst e; rw [if_pos rfl]; simp
    · rw [if_neg e, h.mem q hq r hr]
      constructor
      · intro x; exact ⟨⟨x.1, by rw [x.2]; omega⟩, x.2⟩
      · intro x; exact ⟨x.1.1, x.2⟩
  · rw [qset _ _ _ _ (by omega)]
    by_cases e : q = k
    · rw [if_pos e]; exact List.Pairwise.nil
    · rw [if_neg e]
      refine (h.sorted q hq).imp_of_mem (fun {x y} hx hy hxy => ?_)
      obtain ⟨x', rfl, hx'⟩ := h.small hq hx
      obtain ⟨y', rfl, hy'⟩ := h.small hq hy
      have nk : ∀ z : Nat, z < 16 → (z : Int) ∈ bs.getD q [] → (z : Int) ∉ bs.getD k [] := fun z hz1 h1 h2 => by
        have a := ((h.mem q hq z hz1).1 h1).2
        have b := ((h.mem k hk z hz1).1 h2).2
        omega
      rw [Int.toNat_natCast, Int.toNat_natCast, hz, hz, if_neg (nk x' hx' hx), if_neg (nk y' hy' hy)]
      simpa using hxy
  · exact h.isOk q hq ((hm0 q hq).1 hpos).1

theorem none_left (h : Once i bs ta tb) {k : Nat} (hk : k < 4) {q : Nat} (hq : q < 16) : ¬ (0 < (zeros ta (bs.getD k [])).getD q 0 ∧ tb.getD q 0 = k) := by
  intro hx
  have := ((h.flush hk).mem k hk q hq).2 hx
  rw [flushBs, if_pos (h.is4 hk), Int.toNat_natCast, qset _ _ _ _ (by have := h.four; omega), if_pos rfl] at this
  cases this
end Once
end Go.Proofs.Ytfnlmnpfflnaiaa
