/- A pool of queues (becket/queue) that holds lists, whatever its nodes: all its methods over lists of numbers. -/
import Derived.Test.YtfnlmnpfflnaiaaQw
namespace Go.Proofs.Ytfnlmnpfflnaiaa
open Go.RowKit
set_option linter.unusedVariables false
set_option linter.unusedSimpArgs false

def sumQ (f : Nat → Nat) : Nat → Nat
  | 0 => 0
  | n + 1 => sumQ f n + f n
theorem sumI_sumQ (I : Nat → List Nat) : ∀ n, sumI I n = (I 0).length + sumQ (fun q => (I (q + 1)).length) n
  | 0 => rfl
  | n + 1 => by rw [sumI, sumI_sumQ I n, sumQ]; omega
theorem sumQ_congr {f h : Nat → Nat} : ∀ n, (∀ q, q < n → f q = h q) → sumQ f n = sumQ h n
  | 0, _ => rfl
  | n + 1, e => by rw [sumQ, sumQ, sumQ_congr n (fun q hq => e q (by omega)), e n (by omega)]

/-- Whether there is such a queue. -/
def isQ (qs : List (List Int)) (q : Int) : Bool := decide (0 ≤ q ∧ q < qs.length)
def qAt (qs : List (List Int)) (q : Int) : List Int := qs.getD q.toNat []
def freeQ (R : Nat) (qs : List (List Int)) : Int := (R : Int) - (sumQ (fun k => (qs.getD k []).length) qs.length : Nat)
def pushQs (R : Nat) (qs : List (List Int)) (q x : Int) : List (List Int) := if isQ qs q = true ∧ freeQ R qs ≠ 0 then qs.set q.toNat (qAt qs q ++ [x]) else qs
def pushQe (R : Nat) (qs : List (List Int)) (q : Int) : Int := if isQ qs q = true then (if freeQ R qs = 0 then 10 else 0) else 8
def popQs (qs : List (List Int)) (q : Int) : List (List Int) := if isQ qs q = true then qs.set q.toNat (qAt qs q).tail else qs
def popQx (qs : List (List Int)) (q : Int) : Int := if isQ qs q = true then (qAt qs q).headD 0 else 0
def popQe (qs : List (List Int)) (q : Int) : Int := if isQ qs q = true then (if qAt qs q = [] then 11 else 0) else 8
def remQs (qs : List (List Int)) (q x : Int) : List (List Int) := if isQ qs q = true ∧ x ∈ qAt qs q then qs.set q.toNat ((qAt qs q).erase x) else qs
def remQb (qs : List (List Int)) (q x : Int) : Bool := decide (isQ qs q = true ∧ x ∈ qAt qs q)
def listQ (qs : List (List Int)) (q : Int) : List Int := if isQ qs q = true then qAt qs q else []

theorem isQ_no {qs : List (List Int)} {q : Int} (h : ¬ isQ qs q = true) : q < 0 ∨ (qs.length : Int) ≤ q := by
  simp [isQ] at h; omega
theorem isQ_yes {qs : List (List Int)} {q : Int} (h : isQ qs q = true) : ∃ k : Nat, q = (k : Int) ∧ k < qs.length := by
  simp [isQ] at h
  exact ⟨q.toNat, by omega, by omega⟩
theorem isQ_mk {qs : List (List Int)} {k : Nat} (h : k < qs.length) : isQ qs (k : Int) = true := by simp [isQ, h]
theorem qAt_nat (qs : List (List Int)) (k : Nat) : qAt qs (k : Int) = qs.getD k [] := by simp [qAt]

/-- A pool that holds these queues. -/
def Holds3 (w : World) (g N L R Q : Nat) (qs : List (List Int)) : Prop :=
  ∃ cap xs I, PoolI w g N L R Q cap xs I R ∧ qs.length = Q ∧ ∀ q, q < Q → qs.getD q [] = (I (q + 1)).map xs

theorem Holds3.keeps {w w' : World} {g N L R Q : Nat} {qs : List (List Int)} {S : Nat → Prop} (h : Holds3 w g N L R Q qs) (hk : Keeps S w w') (hg : ¬ S g) (hN : ¬ S N) (hL : ¬ S L) : Holds3 w' g N L R Q qs := by
  obtain ⟨cap, xs, I, h1, h2⟩ := h
  exact ⟨cap, xs, I, h1.keeps hk hg hN hL, h2⟩
theorem Holds3.still {w w' : World} {g N L R Q : Nat} {qs : List (List Int)} (h : Holds3 w g N L R Q qs) (hk : Keeps (fun _ => False) w w') : Holds3 w' g N L R Q qs := h.keeps hk (fun x => x) (fun x => x) (fun x => x)
theorem Holds3.lt {w : World} {g N L R Q : Nat} {qs : List (List Int)} (h : Holds3 w g N L R Q qs) : g < w.heap.size ∧ N < w.heap.size ∧ L < w.heap.size := by
  obtain ⟨cap, xs, I, ⟨_, _, _, _, h1, _⟩, h2⟩ := h
  exact h1.lt
theorem Holds3.len {w : World} {g N L R Q : Nat} {qs : List (List Int)} (h : Holds3 w g N L R Q qs) : qs.length = Q ∧ Q ≤ 64 ∧ R ≤ 1024 ∧ 0 < Q := by
  obtain ⟨cap, xs, I, ⟨_, _, _, _, h1, _⟩, h2, _⟩ := h
  exact ⟨h2, h1.Qle, h1.Rle, h1.Qpos⟩
theorem Holds3.small {w : World} {g N L R Q : Nat} {qs : List (List Int)} (h : Holds3 w g N L R Q qs) (q : Int) : (listQ qs q).length ≤ 1024 := by
  obtain ⟨cap, xs, I, ⟨_, _, _, _, h1, _, hs, hT⟩, h2, h3⟩ := h
  unfold listQ
  split
  · rename_i hq
    obtain ⟨k, rfl, hk⟩ := isQ_yes hq
    rw [qAt_nat, h3 k (by omega), List.length_map]
    have := le_sumI I Q (k + 1) (by omega)
    omega
  · simp

theorem Holds3.free {w : World} {g N L R Q cap : Nat} {qs : List (List Int)} {xs : Nat → Int} {I : Nat → List Nat} (h1 : PoolI w g N L R Q cap xs I R) (h2 : qs.length = Q) (h3 : ∀ q, q < Q → qs.getD q [] = (I (q + 1)).map xs) : freeQ R qs = ((I 0).length : Int) := by
  obtain ⟨_, _, _, _, _, _, hs, _⟩ := h1
  rw [sumI_sumQ] at hs
  have e : sumQ (fun k => (qs.getD k []).length) qs.length = sumQ (fun q => (I (q + 1)).length) Q := by
    rw [h2]; exact sumQ_congr Q (fun q hq => by rw [h3 q hq, List.length_map])
  rw [freeQ, e]; omega

theorem getD_set (qs : List (List Int)) (k q : Nat) (l : List Int) (hk : k < qs.length) : (qs.set k l).getD q [] = if q = k then l else qs.getD q [] := by
  simp only [List.getD, List.getElem?_set]
  by_cases e : k = q
  · subst e; simp [hk]
  · rw [if_neg e, if_neg (fun x => e x.symm)]

theorem h3_push (g N L R Q : Nat) (q x : Int) (qs : List (List Int)) (w : World) (h : Holds3 w g N L R Q qs) :
    Calls Try.prog 24 #[.pointer (some ⟨g, 0, none⟩), .int .i64 q, .int .i64 x] w fun e w' => e = .returned (.int .i64 (pushQe R qs q)) ∧ Holds3 w' g N L R Q (pushQs R qs q x) ∧ Keeps (PB g N L) w w' := by
  obtain ⟨cap, xs, I, h1, h2, h3⟩ := h
  have hfree := Holds3.free h1 h2 h3
  by_cases hq : isQ qs q = true
  · obtain ⟨k, rfl, hk⟩ := isQ_yes hq
    rw [h2] at hk
    cases hI : I 0 with
    | nil =>
      replace hfree : freeQ R qs = 0 := by rw [hfree, hI]; rfl
      refine (poolI_push_full g N L R Q cap R k x xs I w h1 hk hI).mono fun e w' ⟨a1, a2⟩ => ?_
      subst a2
      rw [pushQe, pushQs, if_pos hq, if_pos hfree, if_neg (fun h => h.2 hfree)]
      exact ⟨a1, ⟨cap, xs, I, h1, h2, h3⟩, Keeps.refl _ _⟩
    | cons i is =>
      rw [hI] at hfree
      have hf0 : freeQ R qs ≠ 0 := by rw [hfree]; simp; omega
      have hout : ∀ k', k' ≤ Q → k' ≠ 0 → i ∉ I k' := by
        obtain ⟨_, _, _, _, _, hl, _⟩ := h1
        exact fun k' hk' hne => hl.apart 0 k' (by omega) hk' (fun e => hne e.symm) i (by rw [hI]; simp)
      refine (poolI_push g N L R Q cap R k i is x xs I w h1 hk hI).mono fun e w' ⟨a1, a2, a3⟩ => ?_
      rw [pushQe, pushQs, if_pos hq, if_neg hf0, if_pos ⟨hq, hf0⟩]
      refine ⟨a1, ⟨cap, _, _, a2, by simp [h2], fun q' hq' => ?_⟩, a3⟩
      rw [Int.toNat_natCast, getD_set _ _ _ _ (by omega)]
      have hmap : ∀ k', k' ≤ Q → k' ≠ 0 → (I k').map (upd xs i x) = (I k').map xs := fun k' hk' hne => List.map_congr_left (fun j hj => upd_ne _ _ (fun e => hout k' hk' hne (e ▸ hj)))
      by_cases e : q' = k
      · subst e
        rw [if_pos rfl, updL_same, List.map_append, hmap (q' + 1) (by omega) (by omega), qAt_nat, h3 q' hq']
        simp [upd_same]
      · rw [if_neg e, updL_ne _ _ (by omega), updL_ne _ _ (by omega), hmap (q' + 1) (by omega) (by omega), h3 q' hq']
  · refine (poolI_push_bad g N L R Q cap R q x xs I w h1 (by rw [← h2]; exact isQ_no hq)).mono fun e w' ⟨a1, a2⟩ => ?_
    subst a2
    rw [pushQe, pushQs, if_neg hq, if_neg (fun h => hq h.1)]
    exact ⟨a1, ⟨cap, xs, I, h1, h2, h3⟩, Keeps.refl _ _⟩

theorem h3_first (g N L R Q : Nat) (q : Int) (qs : List (List Int)) (w : World) (h : Holds3 w g N L R Q qs) :
    Calls Try.prog 28 #[.pointer (some ⟨g, 0, none⟩), .int .i64 q] w fun e w' => e = .returned (.tuple #[.int .i64 (popQx qs q), .int .i64 (popQe qs q)]) ∧ Keeps (fun _ => False) w w' := by
  obtain ⟨cap, xs, I, h1, h2, h3⟩ := h
  by_cases hq : isQ qs q = true
  · obtain ⟨k, rfl, hk⟩ := isQ_yes hq
    rw [h2] at hk
    have hqk := h3 k hk
    rw [popQx, popQe, if_pos hq, if_pos hq, qAt_nat, hqk]
    cases hI : I (k + 1) with
    | nil =>
      refine (poolI_first_empty g N L R Q cap R k xs I w h1 hk hI).mono fun e w' ⟨a1, a2⟩ => ?_
      subst a2
      exact ⟨a1, Keeps.refl _ _⟩
    | cons i is =>
      refine (poolI_first g N L R Q cap R k i is xs I w h1 hk hI).mono fun e w' ⟨a1, n, a2⟩ => ?_
      exact ⟨by rw [a1]; rfl, a2 ▸ (Keeps.refl _ w).drewN n⟩
  · refine (poolI_first_bad g N L R Q cap R q xs I w h1 (by rw [← h2]; exact isQ_no hq)).mono fun e w' ⟨a1, a2⟩ => ?_
    subst a2
    rw [popQx, popQe, if_neg hq, if_neg hq]
    exact ⟨a1, Keeps.refl _ _⟩

theorem h3_pop (g N L R Q : Nat) (q : Int) (qs : List (List Int)) (w : World) (h : Holds3 w g N L R Q qs) :
    Calls Try.prog 22 #[.pointer (some ⟨g, 0, none⟩), .int .i64 q] w fun e w' => e = .returned (.tuple #[.int .i64 (popQx qs q), .int .i64 (popQe qs q)]) ∧ Holds3 w' g N L R Q (popQs qs q) ∧ Keeps (PB g N L) w w' := by
  obtain ⟨cap, xs, I, h1, h2, h3⟩ := h
  by_cases hq : isQ qs q = true
  · obtain ⟨k, rfl, hk⟩ := isQ_yes hq
    rw [h2] at hk
    have hqk := h3 k hk
    rw [popQx, popQe, popQs, if_pos hq, if_pos hq, if_pos hq, qAt_nat, hqk]
    cases hI : I (k + 1) with
    | nil =>
      refine (poolI_pop_empty g N L R Q cap R k xs I w h1 hk hI).mono fun e w' ⟨a1, a2⟩ => ?_
      subst a2
      refine ⟨a1, ⟨cap, xs, I, h1, by simp [h2], fun q' hq' => ?_⟩, Keeps.refl _ _⟩
      rw [Int.toNat_natCast, getD_set _ _ _ _ (by omega)]
      by_cases e : q' = k
      · subst e; rw [if_pos rfl, hI]; rfl
      · rw [if_neg e, h3 q' hq']
    | cons i is =>
      refine (poolI_pop g N L R Q cap R k i is xs I w h1 hk hI).mono fun e w' ⟨a1, a2, a3⟩ => ?_
      refine ⟨by rw [a1]; rfl, ⟨cap, xs, _, a2, by simp [h2], fun q' hq' => ?_⟩, a3⟩
      rw [Int.toNat_natCast, getD_set _ _ _ _ (by omega), updL_ne _ _ (by omega)]
      by_cases e : q' = k
      · subst e; rw [if_pos rfl, updL_same]; rfl
      · rw [if_neg e, updL_ne _ _ (by omega), h3 q' hq']
  · refine (poolI_pop_bad g N L R Q cap R q xs I w h1 (by rw [← h2]; exact isQ_no hq)).mono fun e w' ⟨a1, a2⟩ => ?_
    subst a2
    rw [popQx, popQe, popQs, if_neg hq, if_neg hq, if_neg hq]
    exact ⟨a1, ⟨cap, xs, I, h1, h2, h3⟩, Keeps.refl _ _⟩

theorem h3_list (g N L R Q : Nat) (q : Int) (qs : List (List Int)) (w : World) (h : Holds3 w g N L R Q qs) :
    Calls Try.prog 26 #[.pointer (some ⟨g, 0, none⟩), .int .i64 q] w fun e w' => ∃ v, e = .returned v ∧ Rds (fun b => w.heap.size ≤ b) w' v 1 (listQ qs q).length ((listQ qs q).map (Value.int .i64)) ∧ Keeps (fun _ => False) w w' := by
  obtain ⟨cap, xs, I, h1, h2, h3⟩ := h
  by_cases hq : isQ qs q = true
  · obtain ⟨k, rfl, hk⟩ := isQ_yes hq
    rw [h2] at hk
    rw [listQ, if_pos hq, qAt_nat, h3 k hk]
    refine (poolI_list g N L R Q cap R k xs I w h1 hk).mono fun e w' ⟨v, a1, a2, a3⟩ => ⟨v, a1, ?_, a3⟩
    rw [List.length_map, List.map_map]
    exact a2
  · refine (poolI_list_bad g N L R Q cap R q xs I w h1 (by rw [← h2]; exact isQ_no hq)).mono fun e w' ⟨a1, a2⟩ => ?_
    subst a2
    rw [listQ, if_neg hq]
    exact ⟨_, a1, Rds.nil_ _ _ _ _ _, Keeps.refl _ _⟩

theorem h3_new (a b : Int) (Q R : Nat) (w : World) (h1 : 1 ≤ Q) (h2 : Q ≤ 64) (h3 : R ≤ 1024) (ha : a = Q) (hb : b = R) :
    Calls Try.prog 19 #[.int .i64 a, .int .i64 b] w fun e w' => ∃ g N L, e = .returned (.tuple #[.pointer (some ⟨g, 0, none⟩), .int .i64 0]) ∧ w.heap.size ≤ g ∧ w.heap.size ≤ N ∧ w.heap.size ≤ L ∧
      Holds3 w' g N L R Q (List.replicate Q []) ∧ Keeps (fun _ => False) w w' := by
  subst ha hb
  refine (pool_new Q R w h1 h2 h3).mono fun e w' ⟨g, N, L, cap, a1, a2, a3, a4, a5, a6⟩ => ⟨g, N, L, a1, a2, a3, a4, ⟨cap, _, _, a5, by simp, fun q hq => ?_⟩, a6⟩
  rw [I0, updL_ne _ _ (by omega)]
  simp [List.getD, hq]

end Go.Proofs.Ytfnlmnpfflnaiaa
