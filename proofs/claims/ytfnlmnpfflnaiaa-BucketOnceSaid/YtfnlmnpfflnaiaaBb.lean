/- Buckets in memory (becket/bucket), by their contracts over lists: Where, Fall, Flush, New. -/
import Derived.Test.YtfnlmnpfflnaiaaBa
namespace Go.Proofs.Ytfnlmnpfflnaiaa
open Go.RowKit
set_option linter.unusedVariables false
set_option linter.unusedSimpArgs false

/-! ### What the calls answer -/
def whereB (bs : List (List Int)) (p : Int) : Bool := decide (p ∈ bs.flatten)
def whereK (bs : List (List Int)) (p : Int) : Int := if p ∈ bs.flatten then ((bs.findIdx (fun l => decide (p ∈ l)) : Nat) : Int) else 0
def pOk (p : Int) : Bool := decide (0 ≤ p ∧ p < 16)
def fallBs (bs : List (List Int)) (k p : Int) : List (List Int) := if isQ bs k = true ∧ pOk p = true ∧ whereB bs p = false then bs.set k.toNat (qAt bs k ++ [p]) else bs
def fallE (bs : List (List Int)) (k p : Int) : Int := if isQ bs k = true ∧ pOk p = true then (if whereB bs p = true then 7 else 0) else 8
def flushBs (bs : List (List Int)) (k : Int) : List (List Int) := if isQ bs k = true then bs.set k.toNat [] else bs
def flushE (bs : List (List Int)) (k : Int) : Int := if isQ bs k = true then 0 else 8

/-- No one is there twice, and all are processes. -/
structure Good (bs : List (List Int)) : Prop where
  nodup : bs.flatten.Nodup
  small : ∀ p ∈ bs.flatten, 0 ≤ p ∧ p < 16

theorem small_len : ∀ (n : Nat) (l : List Int), l.Nodup → (∀ p ∈ l, 0 ≤ p ∧ p < n) → l.length ≤ n
  | 0, l, h, hs => by
    cases l with
    | nil => simp
    | cons a l => have := hs a (by simp); omega
  | n + 1, l, h, hs => by
    have ih := small_len n (l.erase n) (h.erase (n : Int)) (fun p hp => by
      have := (h.mem_erase_iff).1 hp
      have := hs p this.2
      omega)
    rw [List.length_erase] at ih
    split at ih <;> omega

theorem flatten_set_perm : ∀ (bs : List (List Int)) (k : Nat) (p : Int), k < bs.length → (bs.set k (bs.getD k [] ++ [p])).flatten.Perm (p :: bs.flatten)
  | [], k, p, h => by simp at h
  | b :: bs, 0, p, _ => by
    simp only [List.set_cons_zero, List.getD_cons_zero, List.flatten_cons, List.append_assoc, List.singleton_append]
    exact List.perm_middle
  | b :: bs, k + 1, p, h => by
    simp only [List.set_cons_succ, List.getD_cons_succ, List.flatten_cons]
    exact ((flatten_set_perm bs k p (by simpa using h)).append_left b).trans List.perm_middle
theorem flatten_set_nil : ∀ (bs : List (List Int)) (k : Nat), (bs.set k []).flatten.Sublist bs.flatten
  | [], k => by simp
  | b :: bs, 0 => by simp
  | b :: bs, k + 1 => by
    simp only [List.set_cons_succ, List.flatten_cons]
    exact (List.Sublist.refl b).append (flatten_set_nil bs k)

theorem Good.fall {bs : List (List Int)} (h : Good bs) (k p : Int) : Good (fallBs bs k p) := by
  unfold fallBs
  split
  · rename_i hc
    obtain ⟨hk, hp, hw⟩ := hc
    obtain ⟨k, rfl, hkk⟩ := isQ_yes hk
    have hw' : p ∉ bs.flatten := by simpa [whereB] using hw
    have hp' : 0 ≤ p ∧ p < 16 := by simpa [pOk] using hp
    rw [Int.toNat_natCast, qAt_nat]
    have hpm := flatten_set_perm bs k p hkk
    refine ⟨hpm.nodup_iff.2 (List.nodup_cons.2 ⟨hw', h.nodup⟩), fun q hq => ?_⟩
    rcases List.mem_cons.1 (hpm.mem_iff.1 hq) with rfl | hq
    · exact hp'
    · exact h.small q hq
  · exact h
theorem Good.flush {bs : List (List Int)} (h : Good bs) (k : Int) : Good (flushBs bs k) := by
  unfold flushBs
  split
  · exact ⟨h.nodup.sublist (flatten_set_nil _ _), fun q hq => h.small q ((flatten_set_nil _ _).subset hq)⟩
  · exact h
theorem good_nil (n : Nat) : Good (List.replicate n []) := by
  have : (List.replicate n ([] : List Int)).flatten = [] := by
    induction n with
    | zero => rfl
    | succ n ih => simp [List.replicate_succ]
  exact ⟨by rw [this]; exact List.nodup_nil, by rw [this]; simp⟩

theorem sumQ_flatten (qs : List (List Int)) : ∀ n, n ≤ qs.length → sumQ (fun k => (qs.getD k []).length) n = (qs.take n).flatten.length
  | 0, _ => by simp [sumQ]
  | n + 1, h => by
    have hn : n < qs.length := by omega
    rw [sumQ, sumQ_flatten qs n (by omega), List.take_succ_eq_append_getElem hn, List.flatten_append, List.length_append]
    simp [List.getD, List.getElem?_eq_getElem hn]

/-- There is room as long as someone is not there. -/
theorem Good.free {bs : List (List Int)} (h : Good bs) {p : Int} (hp : pOk p = true) (hw : whereB bs p = false) : freeQ 16 (bs ++ [[]]) ≠ 0 := by
  have hw' : p ∉ bs.flatten := by simpa [whereB] using hw
  have hp' : 0 ≤ p ∧ p < 16 := by simpa [pOk] using hp
  have h1 := small_len 16 (p :: bs.flatten) (List.nodup_cons.2 ⟨hw', h.nodup⟩) (fun q hq => by
    rcases List.mem_cons.1 hq with rfl | hq
    · exact hp'
    · exact h.small q hq)
  have h2 := sumQ_flatten (bs ++ [[]]) _ (Nat.le_refl _)
  rw [List.take_length, List.flatten_append] at h2
  simp only [List.length_cons] at h1
  have h3 : (bs.flatten ++ [([] : List Int)].flatten).length = bs.flatten.length := by simp
  rw [h3] at h2
  unfold freeQ
  rw [h2]
  intro e
  omega

/-! ### Where -/
theorem whereK_at {bs : List (List Int)} {p : Int} {j : Nat} (hj : j < bs.length) (hp : p ∈ bs.getD j []) (hno : ∀ q, q < j → p ∉ bs.getD q []) : whereK bs p = j ∧ whereB bs p = true := by
  have hg : bs.getD j [] = bs[j] := by simp [List.getD, List.getElem?_eq_getElem hj]
  have hm : p ∈ bs.flatten := List.mem_flatten.2 ⟨bs[j], List.getElem_mem hj, by rw [← hg]; exact hp⟩
  refine ⟨?_, by simpa [whereB] using List.mem_flatten.1 hm⟩
  rw [whereK, if_pos hm]
  congr 1
  refine (List.findIdx_eq hj).2 ⟨by rw [← hg]; simpa using hp, fun q hq => ?_⟩
  have := hno q hq
  simp [List.getD, List.getElem?_eq_getElem (show q < bs.length by omega)] at this
  simpa using this
theorem where_no {bs : List (List Int)} {p : Int} (hno : ∀ q, q < bs.length → p ∉ bs.getD q []) : whereK bs p = 0 ∧ whereB bs p = false := by
  have hm : p ∉ bs.flatten := by
    intro hm
    obtain ⟨l, hl, hp⟩ := List.mem_flatten.1 hm
    obtain ⟨j, hj, rfl⟩ := List.getElem_of_mem hl
    exact hno j hj (by simpa [List.getD, List.getElem?_eq_getElem hj] using hp)
  exact ⟨by rw [whereK, if_neg hm], by simpa [whereB] using hm⟩

set_option maxHeartbeats 1000000 in
theorem b_where (T g N L : Nat) (bs : List (List Int)) (p : Int) (w : World) (h : HoldsB w T g N L bs) :
    Calls Try.prog 14 #[.pointer (some ⟨T, 0, none⟩), .int .i64 p] w fun e w' => e = .returned (.tuple #[.int .i64 (whereK bs p), .bool (whereB bs p)]) ∧ Keeps (fun _ => False) w w' := by
  have h4 := h.many
  have hsm : ∀ k, (listQ bs k).length ≤ 1024 := fun k => by
    by_cases hk : isQ bs k = true
    · rw [← listQ_app hk]; exact h.pool.small k
    · rw [listQ, if_neg hk]; simp
  go_enter Try.func14, Try.ntmps14
  go_wp2_with (go_at_call 18; refine (b_many T g N L bs _ h).mono ?_; rintro e w' ⟨rfl, rfl⟩)
  go_loopg [9] bs.length (fun m i wr => ∃ j : Nat, i = .int .i64 j ∧ j + m = bs.length ∧ (∀ q, q < j → p ∉ bs.getD q []) ∧ Keeps (fun _ => False) w wr)
  case atStart => exact ⟨0, rfl, by omega, fun q hq => by omega, Keeps.refl _ _⟩
  case round =>
    obtain ⟨j, rfl, hjm, hno, kw⟩ := hrel
    have HJM := Lib.hid hjm
    have HNO := Lib.hid hno
    have hjl : j ≤ bs.length := by omega
    clear hjm hno
    by_cases hj : j < bs.length
    · have hlq : listQ bs j = bs.getD j [] := by rw [listQ, if_pos (isQ_mk hj), qAt_nat]
      by_cases hp : p ∈ bs.getD j []
      · have HX := Lib.hid (whereK_at hj hp HNO.out)
        have hpd : decide (p ∈ listQ bs j) = true := by rw [hlq]; simpa using hp
        clear hp hlq
        go_wp2_with fail
        refine (b_list T g N L bs j _ (h.still kw)).mono ?_
        rintro e w1 ⟨v, rfl, hv, k1⟩
        obtain ⟨A, c, rfl⟩ := hv.slice_
        go_wp2_with fail
        refine (s_contains _ (listQ bs j) p _ _ hv (by have := hsm j; omega)).mono ?_
        rintro e w2 ⟨rfl, rfl⟩
        rw [hpd]
        go_wp2_with fail
        go_ret2
        exact ⟨by rw [HX.out.1, HX.out.2]; rfl, kw.trans' k1⟩
      · have HNO' := Lib.hid (show ∀ q, q < j + 1 → p ∉ bs.getD q [] from fun q hq => by
          by_cases e : q = j
          · subst e; exact hp
          · exact HNO.out q (by omega))
        have hpd : decide (p ∈ listQ bs j) = false := by rw [hlq]; simpa using hp
        clear hp hlq
        go_wp2_with fail
        refine (b_list T g N L bs j _ (h.still kw)).mono ?_
        rintro e w1 ⟨v, rfl, hv, k1⟩
        obtain ⟨A, c, rfl⟩ := hv.slice_
        go_wp2_with fail
        refine (s_contains _ (listQ bs j) p _ _ hv (by have := hsm j; omega)).mono ?_
        rintro e w2 ⟨rfl, rfl⟩
        rw [hpd]
        go_wp2_with fail
        have hjm := HJM.out
        go_roundg (gk - 1)
        case measure => omega
        case rel => exact ⟨j + 1, by go_num, by omega, HNO'.out, kw.trans' k1⟩
    · have e : j = bs.length := by omega
      have HX := Lib.hid (where_no (p := p) (bs := bs) (by rw [← e]; exact HNO.out))
      go_wp2_with fail
      go_ret2
      exact ⟨by rw [HX.out.1, HX.out.2]; rfl, kw⟩

/-! ### Fall, Flush, New -/
theorem fall_app {bs : List (List Int)} {k : Int} {p : Int} (hk : isQ bs k = true) (hf : freeQ 16 (bs ++ [[]]) ≠ 0) : pushQs 16 (bs ++ [[]]) k p = bs.set k.toNat (qAt bs k ++ [p]) ++ [[]] ∧ pushQe 16 (bs ++ [[]]) k = 0 := by
  obtain ⟨k, rfl, hkk⟩ := isQ_yes hk
  have hk' : isQ (bs ++ [[]]) (k : Int) = true := isQ_mk (by simp; omega)
  rw [pushQs, pushQe, if_pos ⟨hk', hf⟩, if_pos hk', if_neg hf, Int.toNat_natCast, qAt_nat, qAt_nat]
  refine ⟨?_, rfl⟩
  rw [List.set_append_left _ _ hkk]
  simp [List.getD, List.getElem?_append_left hkk]

set_option maxHeartbeats 1000000 in
theorem b_fall (T g N L : Nat) (bs : List (List Int)) (k p : Int) (w : World) (h : HoldsB w T g N L bs) (hG : Good bs) :
    Calls Try.prog 12 #[.pointer (some ⟨T, 0, none⟩), .int .i64 k, .int .i64 p] w fun e w' => e = .returned (.int .i64 (fallE bs k p)) ∧ HoldsB w' T g N L (fallBs bs k p) ∧ Keeps (PB g N L) w w' := by
  have c0 := h.c0
  by_cases hk : isQ bs k = true
  · by_cases hp0 : p < 0
    · have hp : pOk p = false := by simp [pOk]; omega
      rw [fallE, fallBs, if_neg (by simp [hp]), if_neg (by simp [hp])]
      go_enter Try.func12, Try.ntmps12
      go_wp2_with (first | (go_at_call 20; refine (b_ok T g N L bs _ h).mono ?_; rintro e w' ⟨rfl, rfl⟩) | (go_at_call 21; refine (b_is T g N L bs k _ h).mono ?_; rintro e w' ⟨rfl, rfl⟩; rw [hk]))
      go_ret
      exact ⟨rfl, h, Keeps.refl _ _⟩
    · by_cases hp16 : 16 ≤ p
      · have hp : pOk p = false := by simp [pOk]; omega
        rw [fallE, fallBs, if_neg (by simp [hp]), if_neg (by simp [hp])]
        go_enter Try.func12, Try.ntmps12
        go_wp2_with (first | (go_at_call 20; refine (b_ok T g N L bs _ h).mono ?_; rintro e w' ⟨rfl, rfl⟩) | (go_at_call 21; refine (b_is T g N L bs k _ h).mono ?_; rintro e w' ⟨rfl, rfl⟩; rw [hk]))
        go_ret
        exact ⟨rfl, h, Keeps.refl _ _⟩
      · have hp : pOk p = true := by simp [pOk]; omega
        by_cases hw : whereB bs p = true
        · rw [show fallE bs k p = 7 by rw [fallE, if_pos ⟨hk, hp⟩, if_pos hw], show fallBs bs k p = bs by rw [fallBs, if_neg (by simp [hw])]]
          go_enter Try.func12, Try.ntmps12
          go_wp2_with (first | (go_at_call 20; refine (b_ok T g N L bs _ h).mono ?_; rintro e w' ⟨rfl, rfl⟩) | (go_at_call 21; refine (b_is T g N L bs k _ h).mono ?_; rintro e w' ⟨rfl, rfl⟩; rw [hk]) | (go_at_call 14; refine (b_where T g N L bs p _ h).mono ?_; rintro e w1 ⟨rfl, k1⟩; rw [hw]))
          go_ret
          exact ⟨rfl, h.still k1, k1.mono (fun _ _ x => x.elim)⟩
        · have hw' : whereB bs p = false := by simpa using hw
          have hf := hG.free hp hw'
          obtain ⟨e1, e2⟩ := fall_app (p := p) hk hf
          rw [show fallE bs k p = 0 by rw [fallE, if_pos ⟨hk, hp⟩, if_neg hw], show fallBs bs k p = bs.set k.toNat (qAt bs k ++ [p]) by rw [fallBs, if_pos ⟨hk, hp, hw'⟩]]
          have hlen : (bs.set k.toNat (qAt bs k ++ [p])).length = bs.length := by simp
          go_enter Try.func12, Try.ntmps12
          go_wp2_with (first | (go_at_call 20; refine (b_ok T g N L bs _ h).mono ?_; rintro e w' ⟨rfl, rfl⟩) | (go_at_call 21; refine (b_is T g N L bs k _ h).mono ?_; rintro e w' ⟨rfl, rfl⟩; rw [hk]))
          refine (b_where T g N L bs p _ h).mono ?_
          rintro e w1 ⟨rfl, k1⟩
          rw [hw']
          have h1 := h.still k1
          have c0' := h1.c0
          go_wp2_with fail
          refine (h3_push g N L 16 (bs.length + 1) k p (bs ++ [[]]) _ h1.pool).mono ?_
          rintro e w2 ⟨rfl, h2, k2⟩
          rw [e1] at h2
          rw [e2]
          go_wp2_with fail
          go_ret
          refine ⟨rfl, ⟨?_, ?_, h.tB, by rw [hlen]; exact h.many⟩, (k1.mono (fun _ _ x => x.elim)).trans' k2⟩
          · rw [hlen]; exact k2.blk h1.box h.tB
          · rw [hlen]; exact h2
  · rw [fallE, fallBs, if_neg (fun x => hk x.1), if_neg (fun x => hk x.1)]
    go_enter Try.func12, Try.ntmps12
    go_wp2_with (first | (go_at_call 20; refine (b_ok T g N L bs _ h).mono ?_; rintro e w' ⟨rfl, rfl⟩) | (go_at_call 21; refine (b_is T g N L bs k _ h).mono ?_; rintro e w' ⟨rfl, rfl⟩; rw [Bool.eq_false_iff.2 hk]))
    go_ret
    exact ⟨rfl, h, Keeps.refl _ _⟩

theorem b_new_bad (m : Int) (w : World) (hm : m < 0 ∨ 4 < m) :
    Calls Try.prog 7 #[.int .i64 m] w fun e w' => e = .returned (.tuple #[.pointer none, .int .i64 1]) ∧ w = w' := by
  by_cases h0 : m < 0
  · go_enter Try.func7, Try.ntmps7
    go_wp2
    go_ret2
    exact ⟨rfl, rfl⟩
  · have h4 : 4 < m := by omega
    go_enter Try.func7, Try.ntmps7
    go_wp2
    go_ret2
    exact ⟨rfl, rfl⟩

theorem b_new (m : Nat) (w : World) (hm : m ≤ 4) :
    Calls Try.prog 7 #[.int .i64 m] w fun e w' => ∃ T g N L, e = .returned (.tuple #[.pointer (some ⟨T, 0, none⟩), .int .i64 0]) ∧ w.heap.size ≤ T ∧ w.heap.size ≤ g ∧ w.heap.size ≤ N ∧ w.heap.size ≤ L ∧ HoldsB w' T g N L (List.replicate m []) ∧ Keeps (fun _ => False) w w' := by
  have h0 : ¬ ((m : Int) < 0) := by omega
  have h4 : ¬ (4 < (m : Int)) := by omega
  go_enter Try.func7, Try.ntmps7
  go_wp2_with fail
  refine (h3_new _ _ (m + 1) 16 _ (by omega) (by omega) (by omega) (by go_num) (by rfl)).mono ?_
  rintro e w1 ⟨g, N, L, rfl, hg, hN, hL, h1, k1⟩
  go_wp2_with fail
  go_ret2
  have ka : Keeps (fun _ => False) w1 (w1.alloc (.cells #[.pointer (some ⟨g, 0, none⟩), .int .i64 m] 54)) := (Keeps.refl _ _).alloc _
  obtain ⟨l1, l2, l3⟩ := h1.lt
  refine ⟨w1.heap.size, g, N, L, rfl, k1.size, hg, hN, hL, ⟨?_, ?_, ?_, by simpa using hm⟩, k1.alloc _⟩
  · rw [List.length_replicate]; exact heap_alloc_new _ _
  · rw [List.length_replicate, ← List.replicate_succ']; exact h1.still ka
  · rintro (h | h | h) <;> omega
end Go.Proofs.Ytfnlmnpfflnaiaa
