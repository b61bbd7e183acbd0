/- Choices come back from their bytes, and nothing else has these: in plain Lean. -/
import Derived.Test.YtbfdiejcbiocpaaCp
namespace Go.Proofs.Ytbfdiejcbiocpaa
set_option linter.unusedVariables false
set_option linter.unusedSimpArgs false

theorem getD_app_r {α : Type} (a b : List α) (i : Nat) (d : α) : (a ++ b).getD (a.length + i) d = b.getD i d := by
  simp only [List.getD, List.getElem?_append_right (Nat.le_add_right _ _), Nat.add_sub_cancel_left]
theorem getD_app_l {α : Type} (a b : List α) (i : Nat) (d : α) (h : i < a.length) : (a ++ b).getD i d = a.getD i d := by
  simp only [List.getD, List.getElem?_append_left h]
theorem flat_getD (cs : List Ch) : ∀ i k, i < cs.length → k < 3 → (cs.flatMap encC).getD (i * 3 + k) 0 = (encC (cs.getD i c0)).getD k 0 := by
  induction cs with
  | nil => intro i k h; simp at h
  | cons c cs ih =>
    intro i k hi hk
    rw [List.flatMap_cons]
    cases i with
    | zero => rw [Nat.zero_mul, Nat.zero_add, getD_app_l _ _ _ _ (by rw [encC_len]; exact hk)]; rfl
    | succ i =>
      have e : (i + 1) * 3 + k = (encC c).length + (i * 3 + k) := by rw [encC_len]; omega
      rw [e, getD_app_r, ih i k (by simpa using hi) hk]
      rfl
theorem raw_getD (a : List UInt8) (cs : List Ch) (i k : Nat) (hi : i < cs.length) (hk : k < 3) : (a ++ rawC cs).getD (a.length + 2 + i * 3 + k) 0 = (encC (cs.getD i c0)).getD k 0 := by
  have e : a.length + 2 + i * 3 + k = a.length + (2 + (i * 3 + k)) := by omega
  rw [e, getD_app_r, rawC, show (2 : Nat) = (headC cs).length from rfl, getD_app_r]
  exact flat_getD cs i k hi hk
theorem mk3_enc {c : Ch} (h : chk c = 0) : mk3 ((encC c).getD 0 0) ((encC c).getD 1 0) ((encC c).getD 2 0) = c := by
  obtain ⟨k, v, w⟩ := c
  unfold chk at h
  simp only at h
  split at h
  · omega
  split at h
  · rename_i hk
    subst hk
    split at h
    · omega
    · have e : encC ⟨0, v, w⟩ = [0, b8 v, b8 w] := by unfold encC; rw [if_neg (show ¬ (0 : Int) = 1 by decide)]
      rw [e]
      show mk3 0 (b8 v) (b8 w) = _
      unfold mk3
      rw [if_neg (by decide), b8_int, b8_int, Int.emod_eq_of_lt (by omega) (by omega), Int.emod_eq_of_lt (by omega) (by omega)]
      rfl
  · rename_i h1 h2
    have hk : k = 1 := by omega
    subst hk
    split at h
    · omega
    · have e : encC ⟨1, v, w⟩ = [1, b8 (v / 256), b8 v] := by unfold encC; rw [if_pos rfl]
      rw [e]
      show mk3 1 (b8 (v / 256)) (b8 v) = _
      unfold mk3
      rw [if_pos (by decide), b8_int, b8_int]
      have e1 : 256 * (v / 256 % 256) + v % 256 = v := by omega
      have e2 : w = 0 := by omega
      rw [e1, e2]
theorem list_getD {cs ds : List Ch} (hl : cs.length = ds.length) (h : ∀ i, i < cs.length → cs.getD i c0 = ds.getD i c0) : cs = ds := by
  apply List.ext_getElem hl
  intro i h1 h2
  have := h i h1
  simpa [List.getD, h1, h2] using this
theorem chs_raw (a : List UInt8) (cs : List Ch) (h : ∀ i, i < cs.length → chk (cs.getD i c0) = 0) : chsAt (a ++ rawC cs) (a.length + 2) cs.length = cs := by
  apply list_getD (chsAt_len _ _ _)
  intro i hi
  rw [chsAt_len] at hi
  rw [chsAt_at _ _ _ _ hi]
  unfold chAt
  have e0 := raw_getD a cs i 0 hi (by omega)
  have e1 := raw_getD a cs i 1 hi (by omega)
  have e2 := raw_getD a cs i 2 hi (by omega)
  rw [Nat.add_zero] at e0
  rw [e0, e1, e2]
  exact mk3_enc (h i hi)
theorem many_raw (a : List UInt8) (cs : List Ch) (h : cs.length ≤ 2000) : manyAt (a ++ rawC cs) a.length = cs.length := by
  unfold manyAt
  have e0 : (a ++ rawC cs).getD a.length 0 = b8 ((cs.length : Nat) / 256 : Int) := by
    have := getD_app_r a (rawC cs) 0 0
    rw [Nat.add_zero] at this
    rw [this]; rfl
  have e1 : (a ++ rawC cs).getD (a.length + 1) 0 = b8 (cs.length : Nat) := by rw [getD_app_r]; rfl
  rw [e0, e1, b8_toNat, b8_toNat]
  omega
theorem back_body (a : List UInt8) (cs : List Ch) (h : allE cs = 0) : bodyE (a ++ rawC cs) (a.length + 2) cs.length = 0 := by
  obtain ⟨hl, hc⟩ := allE_ok h
  have hav : avail (a ++ rawC cs) (a.length + 2) cs.length = cs.length := by
    unfold avail; rw [List.length_append, rawC_len]; omega
  unfold bodyE
  rw [hav, chs_raw a cs hc, if_neg (bad_none hc), if_neg (by omega)]
theorem back_E (a : List UInt8) (cs : List Ch) (h : allE cs = 0) : readE (a ++ rawC cs) a.length = 0 := by
  obtain ⟨hl, hc⟩ := allE_ok h
  have hlen : (a ++ rawC cs).length = a.length + 2 + 3 * cs.length := by rw [List.length_append, rawC_len]; omega
  unfold readE
  rw [Int.toNat_natCast, many_raw a cs hl, if_neg (by rw [hlen]; omega), if_neg (by rw [hlen]; omega), if_neg (by omega), back_body a cs h]
theorem back_L (a : List UInt8) (cs : List Ch) (h : allE cs = 0) : readL (a ++ rawC cs) a.length = cs := by
  obtain ⟨hl, hc⟩ := allE_ok h
  unfold readL
  rw [if_pos (back_E a cs h), Int.toNat_natCast, many_raw a cs hl, chs_raw a cs hc]
theorem back_T (a : List UInt8) (cs : List Ch) (h : allE cs = 0) : readTo (a ++ rawC cs) a.length = a.length + 2 + 3 * (cs.length : Int) := by
  obtain ⟨hl, hc⟩ := allE_ok h
  unfold readTo
  rw [if_pos (back_E a cs h), Int.toNat_natCast, many_raw a cs hl]
  omega

/-! ### nothing else has these bytes -/
theorem b8_of (x : UInt8) : b8 (x.toNat : Int) = x := by
  apply UInt8.toNat_inj.1
  rw [b8_toNat]
  have := x.toNat_lt
  omega
theorem b8_eq {z : Int} {x : UInt8} (h : z % 256 = (x.toNat : Int)) : b8 z = x := by
  apply UInt8.toNat_inj.1
  rw [b8_toNat, h]
  simp
theorem enc_mk3 {x y z : UInt8} (h : chk (mk3 x y z) = 0) : encC (mk3 x y z) = [x, y, z] := by
  have hx := x.toNat_lt
  have hy := y.toNat_lt
  have hz := z.toNat_lt
  unfold mk3 at h ⊢
  split
  · rename_i h1
    unfold encC
    rw [if_pos rfl]
    have e0 : (1 : UInt8) = x := by apply UInt8.toNat_inj.1; rw [h1]; rfl
    have e1 : b8 ((256 * (y.toNat : Int) + z.toNat) / 256) = y := b8_eq (by omega)
    have e2 : b8 (256 * (y.toNat : Int) + z.toNat) = z := b8_eq (by omega)
    simp only [e0, e1, e2]
  · rename_i h1
    rw [if_neg h1] at h
    have h0 : x.toNat = 0 := by
      unfold chk at h
      simp only at h
      split at h <;> omega
    unfold encC
    rw [if_neg (by simp only; omega)]
    have e0 : (0 : UInt8) = x := by apply UInt8.toNat_inj.1; rw [h0]; rfl
    simp only [e0, b8_of]
theorem drop_take3 (l : List UInt8) (i : Nat) (h : i + 3 ≤ l.length) : (l.drop i).take 3 = [l.getD i 0, l.getD (i + 1) 0, l.getD (i + 2) 0] := by
  apply List.ext_getElem
  · simp; omega
  · intro j h1 h2
    have hj : j < 3 := by simp at h2; omega
    have : j = 0 ∨ j = 1 ∨ j = 2 := by omega
    rcases this with rfl | rfl | rfl <;> simp [List.getD, show i < l.length by omega, show i + 1 < l.length by omega, show i + 2 < l.length by omega]
theorem flat_chs (s : List UInt8) (q : Nat) : ∀ M, q + M * 3 ≤ s.length → (∀ i, i < M → chk (chAt s (q + i * 3)) = 0) → (chsAt s q M).flatMap encC = (s.drop q).take (M * 3) := by
  intro M
  induction M with
  | zero => intro _ _; rw [Nat.zero_mul, List.take_zero]; rfl
  | succ M ih =>
    intro hl hc
    rw [chsAt_succ, List.flatMap_append, ih (by omega) (fun i hi => hc i (by omega)), List.flatMap_singleton, show (M + 1) * 3 = M * 3 + 3 by omega, List.take_add, List.drop_drop, drop_take3 _ _ (by omega)]
    congr 1
    exact enc_mk3 (hc M (by omega))
theorem badIx_bad {cs : List Ch} (h : badIx cs < cs.length) : chk (cs.getD (badIx cs) c0) ≠ 0 := by
  have h1 := List.findIdx_getElem (w := h)
  have e : cs.getD (badIx cs) c0 = cs[badIx cs] := by simp [List.getD, List.getElem?_eq_getElem h]
  rw [e]
  have h2 : bad cs[badIx cs] = true := h1
  simpa [bad] using h2
theorem only_these (s : List UInt8) (h : readE s 0 = 0) : bytesC (readL s 0) = s.take (readTo s 0).toNat ∧ 0 ≤ readTo s 0 ∧ readTo s 0 ≤ s.length := by
  have hr := h
  unfold readE at h
  split at h
  · omega
  split at h
  · omega
  rename_i h1 h2
  rw [Int.toNat_zero] at h
  split at h
  · omega
  rename_i h3
  have h4 : 2 ≤ s.length := by omega
  have hT : readTo s 0 = 2 + (manyAt s 0 : Nat) * 3 := by unfold readTo; rw [if_pos hr, Int.toNat_zero]; omega
  have hL : readL s 0 = chsAt s 2 (manyAt s 0) := by unfold readL; rw [if_pos hr, Int.toNat_zero]
  rw [hT, hL]
  have hM : manyAt s 0 = 256 * (s.getD 0 0).toNat + (s.getD 1 0).toNat := rfl
  generalize manyAt s 0 = M at *
  unfold bodyE at h
  rw [Nat.zero_add] at h
  have hlen : badIx (chsAt s 2 (avail s 2 M)) ≤ avail s 2 M := by
    have := List.findIdx_le_length (p := bad) (xs := chsAt s 2 (avail s 2 M))
    rwa [chsAt_len] at this
  split at h
  · rename_i hb
    exfalso
    have h5 := badIx_bad (cs := chsAt s 2 (avail s 2 M)) (by rw [chsAt_len]; exact hb)
    rw [chsAt_at _ _ _ _ hb] at h5
    exact h5 h
  · rename_i hb
    split at h
    · omega
    rename_i hav
    have hav2 : avail s 2 M = M := by have : avail s 2 M ≤ M := Nat.min_le_left _ _; omega
    have hfit : 2 + M * 3 ≤ s.length := by unfold avail at hav2; omega
    rw [hav2] at hb
    have hall : ∀ i, i < M → chk (chAt s (2 + i * 3)) = 0 := by
      intro i hi
      have hno := List.not_of_lt_findIdx (p := bad) (xs := chsAt s 2 M) (i := i) (by
        have : badIx (chsAt s 2 M) = (chsAt s 2 M).findIdx bad := rfl
        omega)
      have h6 := chsAt_at s 2 M i hi
      rw [List.getD, List.getElem?_eq_getElem (by rw [chsAt_len]; exact hi)] at h6
      simp only [Option.getD_some] at h6
      rw [h6] at hno
      simpa [bad] using hno
    have hE : allE (chsAt s 2 M) = 0 := by
      unfold allE
      rw [chsAt_len, if_neg (by omega), if_neg hb]
    refine ⟨?_, by omega, by omega⟩
    unfold bytesC
    rw [if_pos hE, rawC, flat_chs s 2 M hfit hall]
    have et : (2 + (M : Int) * 3).toNat = 2 + M * 3 := by omega
    rw [et, List.take_add]
    congr 1
    have h0 := (s.getD 0 0).toNat_lt
    have h1 := (s.getD 1 0).toNat_lt
    have e0 : b8 ((M : Int) / 256) = s.getD 0 0 := b8_eq (by omega)
    have e1 : b8 (M : Int) = s.getD 1 0 := b8_eq (by omega)
    unfold headC
    rw [chsAt_len, e0, e1]
    match s, h4 with
    | x :: y :: r, _ => rfl
end Go.Proofs.Ytbfdiejcbiocpaa
