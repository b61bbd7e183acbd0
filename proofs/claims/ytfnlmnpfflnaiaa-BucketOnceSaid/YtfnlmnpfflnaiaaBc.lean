/- Buckets in memory (becket/bucket): Flush, by its contract over lists. -/
import Derived.Test.YtfnlmnpfflnaiaaBb
namespace Go.Proofs.Ytfnlmnpfflnaiaa
open Go.RowKit
set_option linter.unusedVariables false
set_option linter.unusedSimpArgs false

theorem pop_app {bs : List (List Int)} {k j : Nat} (l : List Int) (hk : k < bs.length) (hj : j < l.length) :
    popQs (bs.set k (l.drop j) ++ [[]]) k = bs.set k (l.drop (j + 1)) ++ [[]] ∧ popQe (bs.set k (l.drop j) ++ [[]]) k = 0 := by
  have hk' : isQ (bs.set k (l.drop j) ++ [[]]) (k : Int) = true := isQ_mk (by simp; omega)
  have hg : (bs.set k (l.drop j) ++ [[]]).getD k [] = l.drop j := by
    simp [List.getD, List.getElem?_append_left (show k < (bs.set k (l.drop j)).length by simpa using hk), hk]
  have hne : ¬ l.drop j = [] := by simp; omega
  rw [popQs, popQe, if_pos hk', if_pos hk', Int.toNat_natCast, qAt_nat, hg, if_neg hne, List.tail_drop]
  rw [List.set_append_left _ _ (by simpa using hk)]
  simp

theorem set_self {bs : List (List Int)} {k : Nat} (hk : k < bs.length) : bs.set k (bs.getD k []) = bs := by
  refine List.ext_getElem? (fun j => ?_)
  rw [List.getElem?_set]
  split
  · rename_i e; subst e; simp [hk, List.getD, List.getElem?_eq_getElem hk]
  · rfl

set_option maxHeartbeats 1000000 in
theorem b_flush (T g N L : Nat) (bs : List (List Int)) (k : Int) (w : World) (h : HoldsB w T g N L bs) :
    Calls Try.prog 9 #[.pointer (some ⟨T, 0, none⟩), .int .i64 k] w fun e w' => ∃ v, e = .returned (.tuple #[v, .int .i64 (flushE bs k)]) ∧ Rds (fun b => w.heap.size ≤ b) w' v 1 (listQ bs k).length (ints (listQ bs k)) ∧ HoldsB w' T g N L (flushBs bs k) ∧ Keeps (PB g N L) w w' := by
  by_cases hk : isQ bs k = true
  · have hsm : (listQ bs k).length ≤ 1024 := by rw [← listQ_app hk]; exact h.pool.small k
    rw [flushE, flushBs, if_pos hk, if_pos hk]
    go_enter Try.func9, Try.ntmps9
    go_wp2_with (first | (go_at_call 20; refine (b_ok T g N L bs _ h).mono ?_; rintro e w' ⟨rfl, rfl⟩) | (go_at_call 21; refine (b_is T g N L bs k _ h).mono ?_; rintro e w' ⟨rfl, rfl⟩; rw [hk]))
    refine (b_list T g N L bs k _ h).mono ?_
    rintro e w1 ⟨v, rfl, hv, k1⟩
    obtain ⟨A, c, rfl⟩ := hv.slice_
    have h1 := h.still k1
    obtain ⟨k, rfl, hkk⟩ := isQ_yes hk
    have hlq : listQ bs (k : Int) = bs.getD k [] := by rw [listQ, if_pos hk, qAt_nat]
    have hset := set_self hkk
    rw [← hlq] at hset
    generalize hl : listQ bs (k : Int) = l at *
    have HL := Lib.hid hl
    clear hlq hl
    have hl3 := h.pool.lt
    go_wp2_with fail
    go_loopg [23] l.length (fun m i wr => ∃ j : Nat, i = .int .i64 j ∧ j + m = l.length ∧ Holds3 wr g N L 16 (bs.length + 1) (bs.set k (l.drop j) ++ [[]]) ∧ Keeps (PB g N L) w1 wr)
    case atStart => exact ⟨0, rfl, by omega, by rw [List.drop_zero, hset]; exact h1.pool, Keeps.refl _ _⟩
    case round =>
      obtain ⟨j, rfl, hjm, hp, kw⟩ := hrel
      have HJM := Lib.hid hjm
      have hjl : j ≤ l.length := by omega
      clear hjm
      have c0 : _root_.Go.World.cell? _ ⟨T, 0, none⟩ = some _ := (blkcell (kw.blk h1.box h.tB) 0).trans rfl
      by_cases hj : j < l.length
      · obtain ⟨e1, e2⟩ := pop_app l hkk hj
        have E1 := Lib.hid e1
        have E2 := Lib.hid e2
        clear e1 e2
        go_wp2_with fail
        refine (h3_pop g N L 16 (bs.length + 1) k _ _ hp).mono ?_
        rintro e w2 ⟨rfl, h2, k2⟩
        rw [E1.out] at h2
        rw [E2.out]
        go_wp2_with fail
        have hjm := HJM.out
        go_roundg (gk - 1)
        case measure => omega
        case rel => exact ⟨j + 1, by go_num, by omega, h2, kw.trans' k2⟩
      · have e : j = l.length := by omega
        subst e
        rw [List.drop_length] at hp
        go_wp2_with fail
        go_ret2
        rw [HL.out]
        refine ⟨.slice A l.length c, rfl, hv.keeps kw (fun b hb _ hpb => by rcases hpb with rfl | rfl | rfl <;> omega), ⟨?_, ?_, h.tB, by simpa using h.many⟩, (k1.mono (fun _ _ x => x.elim)).trans' kw⟩
        · rw [Int.toNat_natCast, List.length_set]; exact kw.blk h1.box h.tB
        · rw [Int.toNat_natCast, List.length_set]; exact hp
  · rw [flushE, flushBs, if_neg hk, if_neg hk, show listQ bs k = [] by rw [listQ, if_neg hk]]
    go_enter Try.func9, Try.ntmps9
    go_wp2_with (first | (go_at_call 20; refine (b_ok T g N L bs _ h).mono ?_; rintro e w' ⟨rfl, rfl⟩) | (go_at_call 21; refine (b_is T g N L bs k _ h).mono ?_; rintro e w' ⟨rfl, rfl⟩; rw [Bool.eq_false_iff.2 hk]))
    go_ret2
    exact ⟨_, rfl, Rds.nil_ _ _ _ _ _, h, Keeps.refl _ _⟩
end Go.Proofs.Ytfnlmnpfflnaiaa
