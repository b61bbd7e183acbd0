/- A table of slots (becket/arena) in plain Lean: its slots, its things, and what each call makes of them. -/
import Derived.KernelRfl
namespace Go.Proofs.Ytlfccifibhcacaa
set_option linter.unusedVariables false
set_option linter.unusedSimpArgs false

/-- A slot: its generation, whether it is used, its thing. -/
structure ASlot where
  gen : Int
  used : Bool
  x : Int
def s0 : ASlot := ⟨0, false, 0⟩
def sAt (sl : List ASlot) (i : Nat) : ASlot := sl.getD i s0

theorem sAt_set (sl : List ASlot) (i j : Nat) (v : ASlot) (hi : i < sl.length) : sAt (sl.set i v) j = if j = i then v else sAt sl j := by
  simp only [sAt, List.getD, List.getElem?_set]
  by_cases e : i = j
  · subst e; simp [hi]
  · rw [if_neg e, if_neg (fun x => e x.symm)]

/-- The things that are there, slot by slot, from slot i on. -/
def thingsFrom : Nat → List ASlot → List (Int × Int)
  | _, [] => []
  | i, s :: r => if s.used then ((i : Int), s.x) :: thingsFrom (i + 1) r else thingsFrom (i + 1) r
abbrev things (sl : List ASlot) : List (Int × Int) := thingsFrom 0 sl
/-- How many of the slots before i are used. -/
def cnt (sl : List ASlot) (i : Nat) : Nat := ((sl.take i).filter ASlot.used).length
abbrev gens (sl : List ASlot) : List Int := sl.map ASlot.gen

theorem thingsFrom_append (a b : List ASlot) : ∀ i, thingsFrom i (a ++ b) = thingsFrom i a ++ thingsFrom (i + a.length) b := by
  induction a with
  | nil => intro i; rfl
  | cons s a ih =>
    intro i
    simp only [List.cons_append, thingsFrom, List.length_cons]
    rw [ih, show i + 1 + a.length = i + (a.length + 1) by omega]
    split <;> rfl
theorem thingsFrom_len (a : List ASlot) : ∀ i, (thingsFrom i a).length = (a.filter ASlot.used).length := by
  induction a with
  | nil => intro i; rfl
  | cons s a ih =>
    intro i
    simp only [thingsFrom, List.filter_cons]
    split <;> simp [ih]
theorem thingsFrom_lo (a : List ASlot) : ∀ i, ∀ t ∈ thingsFrom i a, (i : Int) ≤ t.1 ∧ t.1 < (i : Int) + a.length := by
  induction a with
  | nil => intro i t h; cases h
  | cons s a ih =>
    intro i t h
    simp only [thingsFrom] at h
    have key : t ∈ thingsFrom (i + 1) a → (i : Int) ≤ t.1 ∧ t.1 < (i : Int) + (s :: a).length := fun h => by
      have := ih (i + 1) t h
      simp only [List.length_cons]
      omega
    split at h
    · rcases List.mem_cons.1 h with rfl | h
      · simp only [List.length_cons]; omega
      · exact key h
    · exact key h

theorem sl_split {sl : List ASlot} {i : Nat} (hi : i < sl.length) : sl = sl.take i ++ sAt sl i :: sl.drop (i + 1) := by
  have h := List.take_append_drop i sl
  rw [List.drop_eq_getElem_cons hi] at h
  have e : sAt sl i = sl[i] := by simp [sAt, List.getD, List.getElem?_eq_getElem hi]
  rw [e]; exact h.symm
theorem sl_set {sl : List ASlot} {i : Nat} (hi : i < sl.length) (v : ASlot) : sl.set i v = sl.take i ++ v :: sl.drop (i + 1) := List.set_eq_take_append_cons_drop ▸ (if_pos hi)

/-- The things about slot i. -/
theorem things_split {sl : List ASlot} {i : Nat} (hi : i < sl.length) : things sl = thingsFrom 0 (sl.take i) ++ (if (sAt sl i).used then [((i : Int), (sAt sl i).x)] else []) ++ thingsFrom (i + 1) (sl.drop (i + 1)) := by
  have hlen : (sl.take i).length = i := by simp; omega
  conv => lhs; rw [things, sl_split hi]
  rw [thingsFrom_append, hlen, Nat.zero_add]
  simp only [thingsFrom]
  split <;> simp
theorem things_set {sl : List ASlot} {i : Nat} (hi : i < sl.length) (v : ASlot) : things (sl.set i v) = thingsFrom 0 (sl.take i) ++ (if v.used then [((i : Int), v.x)] else []) ++ thingsFrom (i + 1) (sl.drop (i + 1)) := by
  have hlen : (sl.take i).length = i := by simp; omega
  rw [things, sl_set hi, thingsFrom_append, hlen, Nat.zero_add]
  simp only [thingsFrom]
  split <;> simp
theorem cnt_eq {sl : List ASlot} {i : Nat} (hi : i < sl.length) : (thingsFrom 0 (sl.take i)).length = cnt sl i := thingsFrom_len _ _
theorem lo_lt {sl : List ASlot} {i : Nat} (hi : i < sl.length) : ∀ t ∈ thingsFrom 0 (sl.take i), t.1 < (i : Int) := fun t ht => by
  have := thingsFrom_lo _ _ t ht
  have : (sl.take i).length ≤ i := by simp; omega
  omega
theorem hi_gt {sl : List ASlot} {i : Nat} : ∀ t ∈ thingsFrom (i + 1) (sl.drop (i + 1)), (i : Int) < t.1 := fun t ht => by
  have := thingsFrom_lo _ _ t ht
  omega

/-! ### find -/
def findT (ts : List (Int × Int)) (s : Int) : Int := if ts.findIdx (fun t => t.1 == s) < ts.length then (ts.findIdx (fun t => t.1 == s) : Nat) else -1
theorem findT_yes {sl : List ASlot} {i : Nat} (hi : i < sl.length) (hu : (sAt sl i).used = true) : findT (things sl) i = cnt sl i := by
  have h := things_split hi
  rw [if_pos hu] at h
  have e : (things sl).findIdx (fun t => t.1 == (i : Int)) = cnt sl i := by
    rw [h, List.append_assoc, List.findIdx_append, if_neg]
    · simp [List.findIdx_cons, cnt_eq hi]
    · intro hlt
      obtain ⟨t, ht, h2⟩ := List.findIdx_lt_length.1 hlt
      have := lo_lt hi t ht
      simp at h2; omega
  have hl : cnt sl i < (things sl).length := by rw [h, ← cnt_eq hi]; simp
  rw [findT, e, if_pos hl]
theorem nu {s : ASlot} (hu : s.used = false) : ¬ s.used = true := by rw [hu]; exact Bool.false_ne_true
theorem findT_no {sl : List ASlot} {i : Nat} (hi : i < sl.length) (hu : (sAt sl i).used = false) : findT (things sl) i = -1 := by
  have h := things_split hi
  rw [if_neg (nu hu)] at h
  rw [findT, if_neg]
  intro hlt
  obtain ⟨t, ht, h2⟩ := List.findIdx_lt_length.1 hlt
  rw [h] at ht
  simp only [List.append_nil, List.mem_append] at ht
  simp at h2
  rcases ht with ht | ht
  · have := lo_lt hi t ht; omega
  · have := hi_gt t ht; omega
theorem cnt_lt {sl : List ASlot} {i : Nat} (hi : i < sl.length) (hu : (sAt sl i).used = true) : cnt sl i < (things sl).length := by
  have h := things_split hi
  rw [if_pos hu] at h
  rw [h, ← cnt_eq hi]; simp
theorem things_at {sl : List ASlot} {i : Nat} (hi : i < sl.length) (hu : (sAt sl i).used = true) : (things sl).getD (cnt sl i) (0, 0) = ((i : Int), (sAt sl i).x) := by
  have h := things_split hi
  rw [if_pos hu] at h
  rw [h, ← cnt_eq hi]
  simp [List.getD]

/-! ### what the calls make -/
theorem things_setX {sl : List ASlot} {i : Nat} (hi : i < sl.length) (hu : (sAt sl i).used = true) (g x : Int) : things (sl.set i ⟨g, true, x⟩) = (things sl).set (cnt sl i) ((i : Int), x) := by
  rw [things_set hi, things_split hi, if_pos hu, if_pos rfl, ← cnt_eq hi]
  simp
theorem things_drop {sl : List ASlot} {i : Nat} (hi : i < sl.length) (hu : (sAt sl i).used = true) (g x : Int) : things (sl.set i ⟨g, false, x⟩) = (things sl).take (cnt sl i) ++ (things sl).drop (cnt sl i + 1) := by
  rw [things_set hi, things_split hi, if_pos hu, if_neg (by simp), ← cnt_eq hi]
  have : (thingsFrom 0 (sl.take i) ++ [((i : Int), (sAt sl i).x)] ++ thingsFrom (i + 1) (sl.drop (i + 1))).drop ((thingsFrom 0 (sl.take i)).length + 1) = thingsFrom (i + 1) (sl.drop (i + 1)) := by
    rw [List.drop_append_of_le_length (by simp)]; simp
  rw [this]
  simp [List.take_append]
theorem filter_lo {i : Int} : ∀ {l : List (Int × Int)}, (∀ t ∈ l, t.1 < i) → l.filter (fun t => decide (t.1 < i)) = l ∧ l.filter (fun t => decide (i < t.1)) = [] := fun h =>
  ⟨List.filter_eq_self.2 (fun t ht => by simpa using h t ht), List.filter_eq_nil_iff.2 (fun t ht => by have := h t ht; simp; omega)⟩
theorem filter_hi {i : Int} : ∀ {l : List (Int × Int)}, (∀ t ∈ l, i < t.1) → l.filter (fun t => decide (t.1 < i)) = [] ∧ l.filter (fun t => decide (i < t.1)) = l := fun h =>
  ⟨List.filter_eq_nil_iff.2 (fun t ht => by have := h t ht; simp; omega), List.filter_eq_self.2 (fun t ht => by simpa using h t ht)⟩
theorem things_add {sl : List ASlot} {i : Nat} (hi : i < sl.length) (hu : (sAt sl i).used = false) (g x : Int) :
    things (sl.set i ⟨g, true, x⟩) = (things sl).filter (fun t => decide (t.1 < (i : Int))) ++ ((i : Int), x) :: (things sl).filter (fun t => decide ((i : Int) < t.1)) := by
  rw [things_set hi, things_split hi, if_pos rfl, if_neg (nu hu), List.append_nil, List.filter_append, List.filter_append]
  rw [(filter_lo (lo_lt hi)).1, (filter_lo (lo_lt hi)).2, (filter_hi (hi_gt (sl := sl) (i := i))).1, (filter_hi (hi_gt (sl := sl) (i := i))).2]
  simp
theorem things_len (sl : List ASlot) : (things sl).length ≤ sl.length := by rw [things, thingsFrom_len]; exact List.length_filter_le _ _
theorem len_add {sl : List ASlot} {i : Nat} (hi : i < sl.length) (hu : (sAt sl i).used = false) (g x : Int) : (things (sl.set i ⟨g, true, x⟩)).length = (things sl).length + 1 := by
  rw [things_set hi, things_split hi, if_pos rfl, if_neg (nu hu)]; simp; omega
theorem len_setX {sl : List ASlot} {i : Nat} (hi : i < sl.length) (hu : (sAt sl i).used = true) (g x : Int) : (things (sl.set i ⟨g, true, x⟩)).length = (things sl).length := by
  rw [things_setX hi hu]; simp
theorem len_drop {sl : List ASlot} {i : Nat} (hi : i < sl.length) (hu : (sAt sl i).used = true) (g x : Int) : (things (sl.set i ⟨g, false, x⟩)).length + 1 = (things sl).length := by
  rw [things_set hi, things_split hi, if_neg (by simp), if_pos hu]; simp; omega

/-- What is always so. -/
structure FineA (last : Int) (sl : List ASlot) : Prop where
  l1 : 1 ≤ last
  l2 : last ≤ 65535
  n0 : 0 < sl.length
  n1 : sl.length ≤ 30
  gen : ∀ i, i < sl.length → 0 ≤ (sAt sl i).gen ∧ (sAt sl i).gen ≤ last ∧ ((sAt sl i).used = true → 1 ≤ (sAt sl i).gen)

def openS (last : Int) (s : ASlot) : Bool := !s.used && decide (s.gen < last)
def fineH (h : Int) : Bool := decide (4096 ≤ h ∧ h ≤ 268435455)
def hS (h : Int) : Int := if fineH h then h % 4096 else -1
def hG (h : Int) : Int := if fineH h then h / 4096 else 0
def atE (sl : List ASlot) (h : Int) : Int := if 0 ≤ hS h ∧ hS h < sl.length then (if (sAt sl (hS h).toNat).used = true ∧ (sAt sl (hS h).toNat).gen = hG h then 0 else 9) else 8
def getX (sl : List ASlot) (h : Int) : Int := if atE sl h = 0 then (sAt sl (hS h).toNat).x else 0
def setS (sl : List ASlot) (h x : Int) : List ASlot := if atE sl h = 0 then sl.set (hS h).toNat ⟨(sAt sl (hS h).toNat).gen, true, x⟩ else sl
def dropS (sl : List ASlot) (h : Int) : List ASlot := if atE sl h = 0 then sl.set (hS h).toNat ⟨(sAt sl (hS h).toNat).gen, false, 0⟩ else sl
def firstO (last : Int) (sl : List ASlot) : Nat := sl.findIdx (openS last)
def addS (last : Int) (sl : List ASlot) (x : Int) : List ASlot := if firstO last sl < sl.length then sl.set (firstO last sl) ⟨(sAt sl (firstO last sl)).gen + 1, true, x⟩ else sl
def addH (last : Int) (sl : List ASlot) : Int := if firstO last sl < sl.length then ((sAt sl (firstO last sl)).gen + 1) * 4096 + firstO last sl else 0
def addE (last : Int) (sl : List ASlot) : Int := if firstO last sl < sl.length then 0 else 10
def freeA (last : Int) (sl : List ASlot) : Nat := (sl.filter (openS last)).length
def handlesA (sl : List ASlot) : List Int := (things sl).map (fun t => (sAt sl t.1.toNat).gen * 4096 + t.1)

theorem atE_yes {sl : List ASlot} {h : Int} (he : atE sl h = 0) : ∃ i : Nat, hS h = i ∧ i < sl.length ∧ (sAt sl i).used = true ∧ (sAt sl i).gen = hG h := by
  unfold atE at he
  split at he
  · rename_i h1
    split at he
    · rename_i h2
      exact ⟨(hS h).toNat, by omega, by omega, h2.1, h2.2⟩
    · cases he
  · cases he

theorem FineA.put {last : Int} {sl : List ASlot} (h : FineA last sl) {i : Nat} (hi : i < sl.length) (v : ASlot) (hv : 0 ≤ v.gen ∧ v.gen ≤ last ∧ (v.used = true → 1 ≤ v.gen)) : FineA last (sl.set i v) :=
  ⟨h.l1, h.l2, by simpa using h.n0, by simpa using h.n1, fun j hj => by
    rw [sAt_set _ _ _ _ hi]; split
    · exact hv
    · exact h.gen j (by simpa using hj)⟩

theorem FineA.setS {last : Int} {sl : List ASlot} (h : FineA last sl) (k x : Int) : FineA last (setS sl k x) := by
  unfold Ytlfccifibhcacaa.setS
  split
  · rename_i he
    obtain ⟨i, e, hi, hu, hg⟩ := atE_yes he
    rw [e, Int.toNat_natCast]
    have := h.gen i hi
    exact h.put hi _ ⟨this.1, this.2.1, fun _ => this.2.2 hu⟩
  · exact h
theorem FineA.dropS {last : Int} {sl : List ASlot} (h : FineA last sl) (k : Int) : FineA last (dropS sl k) := by
  unfold Ytlfccifibhcacaa.dropS
  split
  · rename_i he
    obtain ⟨i, e, hi, hu, hg⟩ := atE_yes he
    rw [e, Int.toNat_natCast]
    have := h.gen i hi
    exact h.put hi _ ⟨this.1, this.2.1, fun h => by cases h⟩
  · exact h
theorem firstO_open {last : Int} {sl : List ASlot} (h : firstO last sl < sl.length) : (sAt sl (firstO last sl)).used = false ∧ (sAt sl (firstO last sl)).gen < last := by
  have h1 := List.findIdx_getElem (w := h)
  have e : sAt sl (firstO last sl) = sl[firstO last sl] := by simp [sAt, List.getD, List.getElem?_eq_getElem h]
  rw [e]
  have h2 : openS last sl[firstO last sl] = true := h1
  unfold openS at h2
  simp at h2
  exact h2
theorem FineA.addS {last : Int} {sl : List ASlot} (h : FineA last sl) (x : Int) : FineA last (addS last sl x) := by
  unfold Ytlfccifibhcacaa.addS
  split
  · rename_i he
    have := h.gen _ he
    have ho := firstO_open he
    exact h.put he _ ⟨by show 0 ≤ _ + 1; omega, by show _ + 1 ≤ last; omega, fun _ => by show 1 ≤ _ + 1; omega⟩
  · exact h
theorem len_setS (sl : List ASlot) (k x : Int) : (setS sl k x).length = sl.length := by unfold setS; split <;> simp
theorem len_dropS (sl : List ASlot) (k : Int) : (dropS sl k).length = sl.length := by unfold dropS; split <;> simp
theorem len_addS (last : Int) (sl : List ASlot) (x : Int) : (addS last sl x).length = sl.length := by unfold addS; split <;> simp
theorem fineA_start {last : Int} {n : Nat} (h1 : 1 ≤ last) (h2 : last ≤ 65535) (h3 : 0 < n) (h4 : n ≤ 30) : FineA last (List.replicate n s0) := by
  refine ⟨h1, h2, by simpa using h3, by simpa using h4, fun i hi => ?_⟩
  have : sAt (List.replicate n s0) i = s0 := by simp only [sAt, List.getD, List.getElem?_replicate]; split <;> rfl
  rw [this]
  exact ⟨Int.le_refl _, by show (0 : Int) ≤ last; omega, fun h => by cases h⟩
theorem things_start (n : Nat) : ∀ i, thingsFrom i (List.replicate n s0) = [] := by
  induction n with
  | zero => intro i; rfl
  | succ n ih => intro i; rw [List.replicate_succ, thingsFrom, if_neg (by simp [s0]), ih]
end Go.Proofs.Ytlfccifibhcacaa
