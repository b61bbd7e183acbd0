/- Choices in plain Lean: whether they may be, their bytes, and what is read out of bytes. -/
import Derived.KernelRfl
namespace Go.Proofs.Ytbfdiejcbiocpaa
set_option linter.unusedVariables false
set_option linter.unusedSimpArgs false

/-- A choice: its kind, and two numbers. -/
structure Ch where
  k : Int
  v : Int
  w : Int
def c0 : Ch := ⟨0, 0, 0⟩

def chk (c : Ch) : Int :=
  if c.k < 0 ∨ 1 < c.k then 12
  else if c.k = 0 then (if c.v < 0 ∨ 255 < c.v ∨ c.w < 0 ∨ 255 < c.w then 8 else 0)
  else (if c.v < 0 ∨ 65535 < c.v ∨ c.w ≠ 0 then 8 else 0)
def bad (c : Ch) : Bool := decide (chk c ≠ 0)
def badIx (cs : List Ch) : Nat := cs.findIdx bad
def allI (cs : List Ch) : Int := if 2000 < cs.length then 2000 else if badIx cs < cs.length then (badIx cs : Nat) else 0
def allE (cs : List Ch) : Int := if 2000 < cs.length then 5 else if badIx cs < cs.length then chk (cs.getD (badIx cs) c0) else 0

theorem chk_pick {c : Ch} (hk : c.k = 0) : chk c = if c.v < 0 ∨ 255 < c.v ∨ c.w < 0 ∨ 255 < c.w then 8 else 0 := by
  rw [chk, if_neg (by omega), if_pos hk]
theorem chk_tick {c : Ch} (hk : c.k = 1) : chk c = if c.v < 0 ∨ 65535 < c.v ∨ c.w ≠ 0 then 8 else 0 := by
  rw [chk, if_neg (by omega), if_neg (by omega)]
theorem chk_kind {c : Ch} (hk : c.k < 0 ∨ 1 < c.k) : chk c = 12 := by rw [chk, if_pos hk]

theorem bad_at {cs : List Ch} {j : Nat} (hj : j < cs.length) (hb : chk (cs.getD j c0) ≠ 0) (hno : ∀ i, i < j → chk (cs.getD i c0) = 0) : badIx cs = j := by
  have g : ∀ i (h : i < cs.length), cs.getD i c0 = cs[i] := fun i h => by simp [List.getD, List.getElem?_eq_getElem h]
  refine (List.findIdx_eq hj).2 ⟨by rw [← g j hj]; simpa [bad] using hb, fun i hi => ?_⟩
  rw [← g i (by omega)]
  simpa [bad] using hno i hi
theorem bad_none {cs : List Ch} (hno : ∀ i, i < cs.length → chk (cs.getD i c0) = 0) : ¬ badIx cs < cs.length := by
  intro h
  have h1 := List.findIdx_getElem (w := h)
  have := hno _ h
  rw [List.getD, List.getElem?_eq_getElem h] at this
  simp [bad] at h1
  exact h1 this
theorem allE_ok {cs : List Ch} (h : allE cs = 0) : cs.length ≤ 2000 ∧ ∀ i, i < cs.length → chk (cs.getD i c0) = 0 := by
  unfold allE at h
  split at h
  · omega
  · rename_i hl
    split at h
    · rename_i hb
      exfalso
      have h1 := List.findIdx_getElem (w := hb)
      have e : cs.getD (badIx cs) c0 = cs[badIx cs] := by simp [List.getD, List.getElem?_eq_getElem hb]
      rw [e] at h
      have h2 : bad cs[badIx cs] = true := h1
      simp [bad] at h2
      exact h2 h
    · rename_i hb
      refine ⟨by omega, fun i hi => ?_⟩
      have hall : ∀ x ∈ cs, bad x = false := by
        intro x hx
        cases hbx : bad x with
        | false => rfl
        | true => exact absurd (List.findIdx_lt_length_of_exists ⟨x, hx, hbx⟩) hb
      have := hall (cs.getD i c0) (by rw [List.getD, List.getElem?_eq_getElem hi]; exact List.getElem_mem hi)
      simpa [bad] using this

/-! ### bytes -/
def b8 (z : Int) : UInt8 := UInt8.ofNat (z % 256).toNat
theorem b8_toNat (z : Int) : (b8 z).toNat = (z % 256).toNat := by
  unfold b8
  rw [UInt8.toNat_ofNat']
  have h1 := Int.emod_nonneg z (show (256 : Int) ≠ 0 by omega)
  have h2 := Int.emod_lt_of_pos z (show (0 : Int) < 256 by omega)
  omega
theorem b8_int (z : Int) : ((b8 z).toNat : Int) = z % 256 := by
  rw [b8_toNat]
  have h1 := Int.emod_nonneg z (show (256 : Int) ≠ 0 by omega)
  omega
def encC (c : Ch) : List UInt8 := if c.k = 1 then [1, b8 (c.v / 256), b8 c.v] else [0, b8 c.v, b8 c.w]
def headC (cs : List Ch) : List UInt8 := [b8 ((cs.length : Nat) / 256 : Int), b8 (cs.length : Nat)]
def rawC (cs : List Ch) : List UInt8 := headC cs ++ cs.flatMap encC
def bytesC (cs : List Ch) : List UInt8 := if allE cs = 0 then rawC cs else []
theorem encC_len (c : Ch) : (encC c).length = 3 := by unfold encC; split <;> rfl
theorem flat_len (cs : List Ch) : (cs.flatMap encC).length = 3 * cs.length := by
  induction cs with
  | nil => rfl
  | cons c cs ih => rw [List.flatMap_cons, List.length_append, encC_len, ih, List.length_cons]; omega
theorem rawC_len (cs : List Ch) : (rawC cs).length = 2 + 3 * cs.length := by rw [rawC, List.length_append, flat_len]; rfl

/-! ### reading -/
/-- The choice of three bytes. -/
def mk3 (a b c : UInt8) : Ch := if a.toNat = 1 then ⟨1, 256 * (b.toNat : Int) + c.toNat, 0⟩ else ⟨a.toNat, b.toNat, c.toNat⟩
/-- What is at a place of a text. -/
def chAt (s : List UInt8) (p : Nat) : Ch := mk3 (s.getD p 0) (s.getD (p + 1) 0) (s.getD (p + 2) 0)
def chsAt (s : List UInt8) (p n : Nat) : List Ch := (List.range n).map (fun i => chAt s (p + i * 3))
def manyAt (s : List UInt8) (p : Nat) : Nat := 256 * (s.getD p 0).toNat + (s.getD (p + 1) 0).toNat
/-- How many are there, of so many. -/
def avail (s : List UInt8) (p n : Nat) : Nat := min n ((s.length - p) / 3)
theorem chsAt_len (s : List UInt8) (p n : Nat) : (chsAt s p n).length = n := by simp [chsAt]
theorem chsAt_at (s : List UInt8) (p n i : Nat) (h : i < n) : (chsAt s p n).getD i c0 = chAt s (p + i * 3) := by simp [chsAt, List.getD, h]
theorem chsAt_succ (s : List UInt8) (p n : Nat) : chsAt s p (n + 1) = chsAt s p n ++ [chAt s (p + n * 3)] := by simp [chsAt, List.range_succ]

/-- The error of what is read behind the number. -/
def bodyE (s : List UInt8) (p n : Nat) : Int := if badIx (chsAt s p (avail s p n)) < avail s p n then chk (chAt s (p + badIx (chsAt s p (avail s p n)) * 3)) else if avail s p n < n then 4 else 0
def readE (s : List UInt8) (at_ : Int) : Int :=
  if at_ < 0 ∨ (s.length : Int) < at_ then 8 else if (s.length : Int) - at_ < 2 then 4 else if 2000 < manyAt s at_.toNat then 5 else bodyE s (at_.toNat + 2) (manyAt s at_.toNat)
def readL (s : List UInt8) (at_ : Int) : List Ch := if readE s at_ = 0 then chsAt s (at_.toNat + 2) (manyAt s at_.toNat) else []
def readTo (s : List UInt8) (at_ : Int) : Int := if readE s at_ = 0 then at_ + 2 + (manyAt s at_.toNat : Nat) * 3 else 0
end Go.Proofs.Ytbfdiejcbiocpaa
