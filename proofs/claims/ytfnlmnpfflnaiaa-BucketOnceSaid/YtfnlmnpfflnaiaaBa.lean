/- Buckets in memory (becket/bucket), by their contracts over lists: ok, is, Many, List, Where. -/
import Derived.Test.YtfnlmnpfflnaiaaQh
import Derived.Deep.LoopGhost
namespace Go.Proofs.Ytfnlmnpfflnaiaa
open Go.RowKit
set_option linter.unusedVariables false
set_option linter.unusedSimpArgs false

abbrev ints (l : List Int) : List Value := l.map (Value.int .i64)

/-- A table of buckets. -/
structure HoldsB (w : World) (T g N L : Nat) (bs : List (List Int)) : Prop where
  box : w.heap[T]? = some (.cells #[.pointer (some ⟨g, 0, none⟩), .int .i64 bs.length] 54 (0, 0))
  pool : Holds3 w g N L 16 (bs.length + 1) (bs ++ [[]])
  tB : ¬ PB g N L T
  many : bs.length ≤ 4

section
variable {w w' : World} {T g N L : Nat} {bs : List (List Int)} {S : Nat → Prop}
theorem HoldsB.keeps (h : HoldsB w T g N L bs) (hk : Keeps S w w') (hT : ¬ S T) (hg : ¬ S g) (hN : ¬ S N) (hL : ¬ S L) : HoldsB w' T g N L bs :=
  ⟨hk.blk h.box hT, h.pool.keeps hk hg hN hL, h.tB, h.many⟩
theorem HoldsB.still (h : HoldsB w T g N L bs) (hk : Keeps (fun _ => False) w w') : HoldsB w' T g N L bs := h.keeps hk (fun x => x) (fun x => x) (fun x => x) (fun x => x)
theorem HoldsB.c0 (h : HoldsB w T g N L bs) : w.cell? ⟨T, 0, none⟩ = some (.pointer (some ⟨g, 0, none⟩)) := (blkcell h.box 0).trans rfl
theorem HoldsB.c1 (h : HoldsB w T g N L bs) : w.cell? ⟨T, 1, none⟩ = some (.int .i64 bs.length) := (blkcell h.box 1).trans rfl
end

theorem b_ok (T g N L : Nat) (bs : List (List Int)) (w : World) (h : HoldsB w T g N L bs) :
    Calls Try.prog 20 #[.pointer (some ⟨T, 0, none⟩)] w fun e w' => e = .returned (.bool true) ∧ w = w' := by
  have c0 := h.c0
  go_enter Try.func20, Try.ntmps20
  go_wp2
  go_ret
  exact ⟨rfl, rfl⟩

theorem b_is (T g N L : Nat) (bs : List (List Int)) (k : Int) (w : World) (h : HoldsB w T g N L bs) :
    Calls Try.prog 21 #[.pointer (some ⟨T, 0, none⟩), .int .i64 k] w fun e w' => e = .returned (.bool (isQ bs k)) ∧ w = w' := by
  have c1 := h.c1
  by_cases h0 : k < 0
  · rw [show isQ bs k = false by simp [isQ]; omega]
    have h0' : ¬ (0 ≤ k) := by omega
    go_enter Try.func21, Try.ntmps21
    go_wp2
    go_ret
    exact ⟨rfl, rfl⟩
  · have h0' : 0 ≤ k := by omega
    by_cases h1 : k < bs.length
    · rw [show isQ bs k = true by simp [isQ]; omega]
      go_enter Try.func21, Try.ntmps21
      go_wp2
      go_ret
      exact ⟨rfl, rfl⟩
    · rw [show isQ bs k = false by simp [isQ]; omega]
      go_enter Try.func21, Try.ntmps21
      go_wp2
      go_ret
      exact ⟨rfl, rfl⟩

theorem b_many (T g N L : Nat) (bs : List (List Int)) (w : World) (h : HoldsB w T g N L bs) :
    Calls Try.prog 18 #[.pointer (some ⟨T, 0, none⟩)] w fun e w' => e = .returned (.int .i64 bs.length) ∧ w = w' := by
  have c1 := h.c1
  go_enter Try.func18, Try.ntmps18
  go_wp2_with (go_at_call 20; refine (b_ok T g N L bs _ h).mono ?_; rintro e w' ⟨rfl, rfl⟩)
  go_ret
  exact ⟨rfl, rfl⟩

theorem listQ_app {bs : List (List Int)} {k : Int} (h : isQ bs k = true) : listQ (bs ++ [[]]) k = listQ bs k := by
  obtain ⟨k, rfl, hk⟩ := isQ_yes h
  rw [listQ, listQ, if_pos h, if_pos (isQ_mk (by simp; omega)), qAt_nat, qAt_nat]
  simp [List.getD, List.getElem?_append_left hk]

theorem b_list (T g N L : Nat) (bs : List (List Int)) (k : Int) (w : World) (h : HoldsB w T g N L bs) :
    Calls Try.prog 16 #[.pointer (some ⟨T, 0, none⟩), .int .i64 k] w fun e w' => ∃ v, e = .returned v ∧ Rds (fun b => w.heap.size ≤ b) w' v 1 (listQ bs k).length (ints (listQ bs k)) ∧ Keeps (fun _ => False) w w' := by
  have c0 := h.c0
  by_cases hk : isQ bs k = true
  · rw [← listQ_app hk]
    go_enter Try.func16, Try.ntmps16
    go_wp2_with (first | (go_at_call 20; refine (b_ok T g N L bs _ h).mono ?_; rintro e w' ⟨rfl, rfl⟩) | (go_at_call 21; refine (b_is T g N L bs k _ h).mono ?_; rintro e w' ⟨rfl, rfl⟩; rw [hk]) | (go_at_call 26; refine (h3_list g N L 16 (bs.length + 1) k (bs ++ [[]]) _ h.pool).mono ?_; rintro e w1 ⟨v, rfl, hv, k1⟩))
    go_ret
    exact ⟨_, rfl, hv, k1⟩
  · rw [show listQ bs k = [] by rw [listQ, if_neg hk]]
    go_enter Try.func16, Try.ntmps16
    go_wp2_with (first | (go_at_call 20; refine (b_ok T g N L bs _ h).mono ?_; rintro e w' ⟨rfl, rfl⟩) | (go_at_call 21; refine (b_is T g N L bs k _ h).mono ?_; rintro e w' ⟨rfl, rfl⟩; rw [Bool.eq_false_iff.2 hk]))
    go_ret
    exact ⟨_, rfl, Rds.nil_ _ _ _ _ _, Keeps.refl _ _⟩

/-! ### slices.Index, slices.Contains -/
def ixOf (l : List Int) (x : Int) : Int := if x ∈ l then (l.idxOf x : Int) else -1

theorem rds_int {ok : Nat → Prop} {w : World} {v : Value} {m : Nat} {xs : List Int} (h : Rds ok w v 1 m (ints xs)) : xs.length = m ∧ ∃ A c, v = .slice A m c ∧ m ≤ c ∧ (0 < m → ∃ b o, A = some ⟨b, o, none⟩ ∧ ∀ j, j < m → w.cell? ⟨b, o + j, none⟩ = some (.int .i64 (xs.getD j 0))) := by
  obtain ⟨hl, A, c, rfl, hmc, hA⟩ := h
  have hl' : xs.length = m := by simpa using hl
  refine ⟨hl', A, c, rfl, hmc, fun hm => ?_⟩
  obtain ⟨b, o, hA, _, _, hc⟩ := hA.resolve_left (by omega)
  refine ⟨b, o, hA, fun j hj => hc j _ ?_⟩
  simp [List.getD, List.getElem?_eq_getElem (show j < xs.length by omega)]

set_option maxHeartbeats 800000 in
theorem s_index (v : Value) (l : List Int) (x : Int) (ok : Nat → Prop) (w : World) (h : Rds ok w v 1 l.length (ints l)) (hl : l.length ≤ 2000) :
    Calls Try.prog 31 #[v, .int .i64 x] w fun e w' => e = .returned (.int .i64 (ixOf l x)) ∧ w = w' := by
  obtain ⟨_, A, c, rfl, hmc, hA⟩ := rds_int h
  clear h
  have HA := Lib.hid hA
  clear hA
  go_enter Try.func31, Try.ntmps31
  go_wp2
  go_loopg [8] l.length (fun m i wr => ∃ j : Nat, i = .int .i64 j ∧ j + m = l.length ∧ x ∉ l.take j ∧ wr = w)
  case atStart => exact ⟨0, rfl, by omega, by simp, rfl⟩
  case round =>
    obtain ⟨j, rfl, hjm, hno, hwr⟩ := hrel
    obtain rfl := hwr.symm
    have HJM := Lib.hid hjm
    have HNO := Lib.hid hno
    have hjl : j ≤ l.length := by omega
    clear hjm hno hwr
    by_cases hj : j < l.length
    · obtain ⟨b, o, rfl, hc⟩ := HA.out (by omega)
      have hx := hc j hj
      clear hc
      have hg : l.getD j 0 = l[j] := by simp [List.getD, List.getElem?_eq_getElem hj]
      by_cases hxx : x = l.getD j 0
      · have hxb : (x == l.getD j 0) = true := by simpa using hxx
        have hix : ixOf l x = j := by
          have hm : x ∈ l := by rw [hxx, hg]; exact List.getElem_mem hj
          have hidx : l.idxOf x = j := by
            have h1 : l = l.take j ++ l.drop j := (List.take_append_drop j l).symm
            rw [h1, List.idxOf_append, if_neg HNO.out, List.drop_eq_getElem_cons hj, ← hg, ← hxx]
            simp; omega
          rw [ixOf, if_pos hm, hidx]
        have HX := Lib.hid hix
        clear hix hxx hg
        generalize l.getD j 0 = y at *
        go_wp2
        go_ret
        exact ⟨by rw [HX.out]; rfl, rfl⟩
      · have hxb : (x == l.getD j 0) = false := by simpa using hxx
        have hno' : x ∉ l.take (j + 1) := by
          rw [List.take_succ_eq_append_getElem hj]
          simp only [List.mem_append, List.mem_singleton, not_or]
          exact ⟨HNO.out, by rw [← hg]; exact hxx⟩
        have HNO' := Lib.hid hno'
        clear hno' hxx hg
        generalize l.getD j 0 = y at *
        go_wp2
        have hjm := HJM.out
        go_roundg (gk - 1)
        case measure => omega
        case rel => exact ⟨j + 1, by go_num, by omega, HNO'.out, rfl⟩
    · have e : j = l.length := by omega
      have hx : x ∉ l := by have := HNO.out; rwa [e, List.take_length] at this
      have HX := Lib.hid hx
      clear hx
      go_wp2
      go_ret
      exact ⟨by rw [ixOf, if_neg HX.out]; rfl, rfl⟩

theorem s_contains (v : Value) (l : List Int) (x : Int) (ok : Nat → Prop) (w : World) (h : Rds ok w v 1 l.length (ints l)) (hl : l.length ≤ 2000) :
    Calls Try.prog 25 #[v, .int .i64 x] w fun e w' => e = .returned (.bool (decide (x ∈ l))) ∧ w = w' := by
  obtain ⟨A, c, rfl⟩ := h.slice_
  by_cases hx : x ∈ l
  · have h1 : (0 : Int) ≤ ixOf l x := by rw [ixOf, if_pos hx]; omega
    rw [show decide (x ∈ l) = true by simpa using hx]
    go_enter Try.func25, Try.ntmps25
    go_wp2_with (go_at_call 31; refine (s_index _ l x ok _ h hl).mono ?_; rintro e w' ⟨rfl, rfl⟩)
    go_ret
    exact ⟨rfl, rfl⟩
  · have h1 : decide ((0 : Int) ≤ ixOf l x) = false := by rw [ixOf, if_neg hx]; rfl
    rw [show decide (x ∈ l) = false by simpa using hx]
    go_enter Try.func25, Try.ntmps25
    go_wp2_with (go_at_call 31; refine (s_index _ l x ok _ h hl).mono ?_; rintro e w' ⟨rfl, rfl⟩)
    go_ret
    exact ⟨rfl, rfl⟩
end Go.Proofs.Ytfnlmnpfflnaiaa
