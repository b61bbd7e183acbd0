/- Sets of ids in four words, in plain Lean. -/
import Derived.KernelRfl
import Derived.Lib.TrailingZeros
namespace Go.Proofs.YtlfccifibhcacaaDoor
set_option linter.unusedVariables false
set_option linter.unusedSimpArgs false

/-- Whether an id is in a set of words. -/
def inS (W : Nat → Nat) (i : Nat) : Bool := (W (i / 64)).testBit (i % 64)
def ids (W : Nat → Nat) : List Nat := (List.range 256).filter (inS W)
/-- The next id from a number on. -/
def nxt (W : Nat → Nat) (f : Nat) : Option Nat := (ids W).find? (fun i => decide (f ≤ i))
/-- Words of 64 bits. -/
def W64 (W : Nat → Nat) : Prop := ∀ k, W k < 18446744073709551616

theorem mem_ids {W : Nat → Nat} {i : Nat} : i ∈ ids W ↔ i < 256 ∧ inS W i = true := by simp [ids]
theorem ids_len (W : Nat → Nat) : (ids W).length ≤ 256 := by
  have := List.length_filter_le (inS W) (List.range 256)
  simpa [ids] using this
theorem ids_sorted (W : Nat → Nat) : (ids W).Pairwise (· < ·) := List.Pairwise.filter _ List.pairwise_lt_range

theorem find_sorted {l : List Nat} (hs : l.Pairwise (· < ·)) {f i : Nat} (hm : i ∈ l) (hf : f ≤ i) (hno : ∀ j ∈ l, f ≤ j → i ≤ j) : l.find? (fun i => decide (f ≤ i)) = some i := by
  induction l with
  | nil => cases hm
  | cons x l ih =>
    rw [List.find?_cons]
    by_cases hx : f ≤ x
    · rw [decide_eq_true hx]
      have h1 := hno x List.mem_cons_self hx
      rcases List.mem_cons.1 hm with rfl | h
      · rfl
      · have := (List.pairwise_cons.1 hs).1 i h
        omega
    · rw [decide_eq_false hx]
      rcases List.mem_cons.1 hm with rfl | h
      · omega
      · exact ih (List.pairwise_cons.1 hs).2 h (fun j hj => hno j (List.mem_cons_of_mem _ hj))
theorem nxt_some {W : Nat → Nat} {f i : Nat} (h1 : i < 256) (h2 : inS W i = true) (h3 : f ≤ i) (h4 : ∀ j, f ≤ j → j < i → inS W j = false) : nxt W f = some i := by
  refine find_sorted (ids_sorted W) (mem_ids.2 ⟨h1, h2⟩) h3 (fun j hj hf => ?_)
  apply Nat.le_of_not_lt
  intro hlt
  have := h4 j hf hlt
  rw [(mem_ids.1 hj).2] at this
  cases this
theorem nxt_none {W : Nat → Nat} {f : Nat} (h : ∀ j, f ≤ j → j < 256 → inS W j = false) : nxt W f = none := by
  unfold nxt
  rw [List.find?_eq_none]
  intro j hj
  rw [mem_ids] at hj
  intro hf
  have := h j (of_decide_eq_true hf) hj.1
  rw [hj.2] at this
  cases this
theorem nxt_zero (W : Nat → Nat) : nxt W 0 = (ids W)[0]? := by
  unfold nxt
  cases h : ids W with
  | nil => rfl
  | cons x l => rw [List.find?_cons]; simp
theorem nxt_at {W : Nat → Nat} {k i : Nat} (h : (ids W)[k]? = some i) : nxt W (i + 1) = (ids W)[k + 1]? := by
  have hs := ids_sorted W
  unfold nxt
  generalize ids W = l at *
  induction l generalizing k with
  | nil => simp at h
  | cons x l ih =>
    rw [List.find?_cons]
    cases k with
    | zero =>
      simp at h
      subst h
      rw [decide_eq_false (by omega)]
      show l.find? _ = l[0]?
      cases l with
      | nil => rfl
      | cons y l =>
        have := (List.pairwise_cons.1 hs).1 y List.mem_cons_self
        rw [List.find?_cons, decide_eq_true (by omega)]
        rfl
    | succ k =>
      have h' : l[k]? = some i := h
      have := (List.pairwise_cons.1 hs).1 i (List.mem_of_getElem? h')
      rw [decide_eq_false (by omega)]
      exact ih h' (List.pairwise_cons.1 hs).2

/-! ### the lowest bit -/
theorem ctz_bit {x : Nat} (h0 : x ≠ 0) (h : x < 18446744073709551616) : Lib.ctz 64 x < 64 ∧ x.testBit (Lib.ctz 64 x) = true ∧ ∀ j, j < Lib.ctz 64 x → x.testBit j = false := by
  obtain ⟨m, hm, hk⟩ := Lib.ctzFrom_spec 64 x (by omega) h
  have e : Lib.ctz 64 x = Lib.ctzFrom 64 x := by simp [Lib.ctz, h0]
  rw [e]
  generalize Lib.ctzFrom 64 x = k at *
  refine ⟨hk, ?_, fun j hj => ?_⟩
  · rw [hm, Nat.mul_comm, Nat.testBit_mul_two_pow]
    simp [Nat.testBit_zero]
  · rw [hm, Nat.mul_comm, Nat.testBit_mul_two_pow]
    simp
    omega
theorem mask_bit (x r j : Nat) : (x / 2 ^ r * 2 ^ r).testBit j = (decide (r ≤ j) && x.testBit j) := by
  rw [Nat.testBit_mul_two_pow, Nat.testBit_div_two_pow]
  by_cases h : r ≤ j
  · have : j - r + r = j := by omega
    simp [h, this]
  · simp [h]
/-- The word at k, without the bits below the number. -/
def mw (W : Nat → Nat) (f k : Nat) : Nat := if k = f / 64 then W k / 2 ^ (f % 64) * 2 ^ (f % 64) else W k
theorem mw_lt {W : Nat → Nat} (hW : W64 W) (f k : Nat) : mw W f k < 18446744073709551616 := by
  unfold mw
  split
  · have := Nat.div_mul_le_self (W k) (2 ^ (f % 64))
    have := hW k
    omega
  · exact hW k
theorem mw_bit {W : Nat → Nat} {f k j : Nat} (hk : f / 64 ≤ k) (hj : j < 64) : (mw W f k).testBit j = (decide (f ≤ k * 64 + j) && inS W (k * 64 + j)) := by
  have e1 : (k * 64 + j) / 64 = k := by omega
  have e2 : (k * 64 + j) % 64 = j := by omega
  unfold mw inS
  rw [e1, e2]
  split
  · rename_i hkf
    subst hkf
    rw [mask_bit]
    congr 1
    apply decide_eq_decide.2
    omega
  · rw [decide_eq_true (by omega)]; rfl
/-- So far no word had a bit. -/
def Dry (W : Nat → Nat) (f k : Nat) : Prop := ∀ j, f / 64 ≤ j → j < k → mw W f j = 0
theorem dry_bits {W : Nat → Nat} {f k i : Nat} (h : Dry W f k) (h1 : f ≤ i) (h2 : i < k * 64) : inS W i = false := by
  have hb := mw_bit (W := W) (f := f) (k := i / 64) (j := i % 64) (by omega) (by omega)
  rw [h (i / 64) (by omega) (by omega)] at hb
  have e : i / 64 * 64 + i % 64 = i := by omega
  rw [e, decide_eq_true h1] at hb
  simpa using hb.symm
theorem dry_hit {W : Nat → Nat} (hW : W64 W) {f k : Nat} (hk : f / 64 ≤ k) (hk4 : k < 4) (h : Dry W f k) (hne : mw W f k ≠ 0) : nxt W f = some (k * 64 + Lib.ctz 64 (mw W f k)) := by
  obtain ⟨h1, h2, h3⟩ := ctz_bit hne (mw_lt hW f k)
  rw [mw_bit hk h1] at h2
  simp at h2
  refine nxt_some (by omega) h2.2 h2.1 (fun j hf hj => ?_)
  by_cases hjk : j < k * 64
  · exact dry_bits h hf hjk
  · have := h3 (j - k * 64) (by omega)
    rw [mw_bit hk (by omega)] at this
    have e : k * 64 + (j - k * 64) = j := by omega
    rw [e, decide_eq_true hf] at this
    simpa using this
theorem dry_succ {W : Nat → Nat} {f k : Nat} (h : Dry W f k) (h0 : mw W f k = 0) : Dry W f (k + 1) := fun j h1 h2 => by
  by_cases e : j = k
  · subst e; exact h0
  · exact h j h1 (by omega)
theorem dry_end {W : Nat → Nat} {f k : Nat} (h : Dry W f k) (hk : 4 ≤ k) : nxt W f = none := nxt_none (fun j h1 h2 => dry_bits h h1 (by omega))

/-! ### ids put in -/
def addW (W : Nat → Nat) (i : Nat) : Nat → Nat := fun k => if k = i / 64 then W k ||| 2 ^ (i % 64) else W k
def addI (W : Nat → Nat) (z : Int) : Nat → Nat := if 0 ≤ z ∧ z ≤ 255 then addW W z.toNat else W
theorem add_bit (W : Nat → Nat) (i j : Nat) : inS (addW W i) j = (inS W j || decide (i = j)) := by
  unfold inS addW
  by_cases h : j / 64 = i / 64
  · rw [if_pos h, Nat.testBit_or, Nat.testBit_two_pow]
    congr 1
    apply decide_eq_decide.2
    omega
  · rw [if_neg h, decide_eq_false (by intro e; subst e; exact h rfl)]
    simp
theorem add_64 {W : Nat → Nat} (h : W64 W) (i : Nat) : W64 (addW W i) := fun k => by
  unfold addW
  split
  · have : (2 : Nat) ^ (i % 64) < 2 ^ 64 := Nat.pow_lt_pow_right (by omega) (by omega)
    exact Nat.or_lt_two_pow (n := 64) (h k) this
  · exact h k
theorem addI_64 {W : Nat → Nat} (h : W64 W) (z : Int) : W64 (addI W z) := by
  unfold addI
  split
  · exact add_64 h _
  · exact h
def ofI (l : List Int) : Nat → Nat := l.foldl addI (fun _ => 0)
theorem ofI_snoc (l : List Int) (z : Int) : ofI (l ++ [z]) = addI (ofI l) z := by simp [ofI, List.foldl_append]
theorem ofI_64 (l : List Int) : W64 (ofI l) := by
  unfold ofI
  have : ∀ (l : List Int) (W : Nat → Nat), W64 W → W64 (l.foldl addI W) := by
    intro l
    induction l with
    | nil => intro W h; exact h
    | cons x l ih => intro W h; exact ih _ (addI_64 h x)
  exact this l _ (fun _ => by decide)
theorem of_bit (l : List Nat) (hl : ∀ x ∈ l, x < 256) (j : Nat) : inS (ofI (l.map (fun x : Nat => (x : Int)))) j = decide (j ∈ l) := by
  have : ∀ (l : List Nat) (W : Nat → Nat), (∀ x ∈ l, x < 256) → inS ((l.map (fun x : Nat => (x : Int))).foldl addI W) j = (inS W j || decide (j ∈ l)) := by
    intro l
    induction l with
    | nil => intro W _; simp
    | cons x l ih =>
      intro W h
      have hx := h x List.mem_cons_self
      rw [List.map_cons, List.foldl_cons, ih _ (fun y hy => h y (List.mem_cons_of_mem _ hy))]
      have e : addI W (x : Int) = addW W x := by unfold addI; rw [if_pos (by omega), Int.toNat_natCast]
      rw [e, add_bit]
      by_cases hj : j ∈ l
      · simp [hj]
      · by_cases hxj : x = j
        · subst hxj; simp
        · have : ¬ j = x := fun e => hxj e.symm
          simp [hj, hxj, this]
  rw [ofI, this l _ hl]
  simp [inS]
/-- A set is made of its ids. -/
theorem of_ids {W : Nat → Nat} (hW : W64 W) (k : Nat) (hk : k < 4) : ofI ((ids W).map (fun x : Nat => (x : Int))) k = W k := by
  apply Nat.eq_of_testBit_eq
  intro j
  by_cases hj : j < 64
  · have h1 := of_bit (ids W) (fun x hx => (mem_ids.1 hx).1) (k * 64 + j)
    have h2 : decide (k * 64 + j ∈ ids W) = inS W (k * 64 + j) := by
      by_cases h : inS W (k * 64 + j) = true
      · rw [h, decide_eq_true (mem_ids.2 ⟨by omega, h⟩)]
      · rw [decide_eq_false (fun hm => h (mem_ids.1 hm).2)]; simpa using h
    rw [h2] at h1
    unfold inS at h1
    have e1 : (k * 64 + j) / 64 = k := by omega
    have e2 : (k * 64 + j) % 64 = j := by omega
    rwa [e1, e2] at h1
  · have g : ∀ x : Nat, x < 18446744073709551616 → x.testBit j = false := fun x hx => Nat.testBit_lt_two_pow (Nat.lt_of_lt_of_le hx (by
      have : (2 : Nat) ^ 64 ≤ 2 ^ j := Nat.pow_le_pow_right (by decide) (by omega)
      simpa using this))
    rw [g _ (ofI_64 _ k), g _ (hW k)]
end Go.Proofs.YtlfccifibhcacaaDoor
