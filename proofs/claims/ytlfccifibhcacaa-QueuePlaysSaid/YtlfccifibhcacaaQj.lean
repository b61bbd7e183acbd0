/- The document's pool of queues (becket/becketref03): Remove, by its contract over lists of lists. -/
import Derived.Test.YtlfccifibhcacaaQi
import Derived.Outline
namespace Go.Proofs.Ytlfccifibhcacaa
open Go.RowKit
set_option linter.unusedVariables false
set_option linter.unusedSimpArgs false

theorem rds_cast {ok : Nat → Prop} {w : World} {v : Value} {n n' : Nat} {xs xs' : List Value} (h : Rds ok w v 1 n xs) (hn : n = n') (hx : xs = xs') : Rds ok w v 1 n' xs' := by subst hn hx; exact h
theorem erase_at : ∀ (l : List Int) (k : Nat) (x : Int), k < l.length → x ∉ l.take k → l.getD k 0 = x → l.take k ++ l.drop (k + 1) = l.erase x
  | [], k, x, h, _, _ => by simp at h
  | y :: l, 0, x, _, _, h => by
    simp at h
    subst h
    simp
  | y :: l, k + 1, x, h1, h2, h3 => by
    simp only [List.take_succ_cons, List.mem_cons, not_or] at h2
    have hyx : ¬ (y == x) = true := by simp; exact fun e => h2.1 e.symm
    rw [List.erase_cons_tail hyx, List.take_succ_cons, List.cons_append, List.drop_succ_cons, erase_at l k x (by simpa using h1) h2.2 (by simpa using h3)]
theorem ints_take (l : List Int) (k : Nat) : (ints l).take k = ints (l.take k) := by simp [ints, List.map_take]
theorem ints_drop (l : List Int) (k : Nat) : (ints l).drop k = ints (l.drop k) := by simp [ints, List.map_drop]

set_option maxHeartbeats 2000000 in
set_option maxRecDepth 100000 in
theorem ref3_remove (R : Nat) (q x : Int) (v : Value) (qs : List (List Int)) (ok : Nat → Prop) (w : World) (h : RL ok w v qs) (hQ : qs.length ≤ 64) (hs : sumQ (fun k => (qs.getD k []).length) qs.length ≤ 1024) :
    Calls Try.prog 35 #[.agg #[.int .i64 R, v], .int .i64 q, .int .i64 x] w fun e w' => ∃ v', e = .returned (.tuple #[.agg #[.int .i64 R, v'], .bool (remQb qs q x)]) ∧ RL (fun b => ok b ∨ w.heap.size ≤ b) w' v' (remQs qs q x) ∧ Keeps (fun _ => False) w w' := by
  obtain ⟨A, c, rfl⟩ := h.slice_
  have hblk := heap_alloc_new w (.cells #[.int .i64 R, .slice A qs.length c] 72)
  have hblk2 := heap_alloc_new (w.alloc (.cells #[.int .i64 R, .slice A qs.length c] 72)) (.cells #[.int .i64 0, .slice none 0 0] 72)
  rw [World.size_alloc] at hblk2
  have hblk1 := blkalloc hblk (.cells #[.int .i64 0, .slice none 0 0] 72)
  have hk0 : Keeps (fun _ => False) w ((w.alloc (.cells #[.int .i64 R, .slice A qs.length c] 72)).alloc (.cells #[.int .i64 0, .slice none 0 0] 72)) := ((Keeps.refl _ _).alloc _).alloc _
  by_cases hq : isQ qs q = true
  · obtain ⟨k, rfl, hk⟩ := isQ_yes hq
    obtain ⟨b, o, Aq, cq, rfl, hb, hc, hr⟩ := h.at_ k hk
    have hlk : (qs.getD k []).length ≤ 1024 := by
      have := sumQ_le_of (fun k => (qs.getD k []).length) qs.length (k + 1) (by omega)
      simp only [sumQ] at this; omega
    have hQs : x ∈ qs.getD k [] → remQs qs k x = qs.set k ((qs.getD k []).erase x) ∧ remQb qs k x = true := fun hx => by
      rw [remQs, remQb, qAt_nat, if_pos ⟨hq, hx⟩, Int.toNat_natCast]; exact ⟨rfl, decide_eq_true ⟨hq, hx⟩⟩
    have hQn : x ∉ qs.getD k [] → remQs qs k x = qs ∧ remQb qs k x = false := fun hx => by
      rw [remQs, remQb, qAt_nat, if_neg (fun h => hx h.2)]; exact ⟨rfl, decide_eq_false (fun h => hx h.2)⟩
    generalize hlkq : qs.getD k [] = lk at hc hr hlk hQs hQn
    generalize remQs qs (k : Int) x = Q' at hQs hQn ⊢
    generalize remQb qs (k : Int) x = B at hQs hQn ⊢
    obtain ⟨_, _, _, hv, hmc, hA⟩ := hr.at_int
    injection hv with hv1 hv2 hv3
    subst hv1 hv3
    have HLK := Lib.hid hlkq
    clear hlkq
    have HR := Lib.hid hr
    clear hr
    have HQs := Lib.hid hQs
    have HQn := Lib.hid hQn
    clear hQs hQn
    have HA := Lib.hid hA
    clear hA
    go_enter Try.func35, Try.ntmps35
    go_wp2_with fail
    refine (ref3_is _ _ _ _ _ _).mono ?_
    rintro e w1 ⟨rfl, k1⟩
    rw [isQ_dec, hq]
    have kk := hk0.trans' k1
    have hbd : w.heap.size + 2 ≤ w1.heap.size := by have := k1.size; simpa using this
    have hb3 := k1.blk hblk1 (fun x => x)
    have hb4 := k1.blk hblk2 (fun x => x)
    have hcx := (kk.cell (p := ⟨b, o + k, none⟩) hb (fun x => x)).trans hc
    have hpp : (⟨b, o + k, none⟩ : Addr).block ≠ w.heap.size + 1 := by show b ≠ _; omega
    have c0 : w1.cell? ⟨w.heap.size, 0, none⟩ = some _ := (blkcell hb3 0).trans rfl
    have c1 : w1.cell? ⟨w.heap.size, 1, none⟩ = some _ := (blkcell hb3 1).trans rfl
    have cc0 : w1.cell? ⟨w.heap.size + 1, 0, none⟩ = some _ := (blkcell hb4 0).trans rfl
    have cc1 : w1.cell? ⟨w.heap.size + 1, 1, none⟩ = some _ := (blkcell hb4 1).trans rfl
    have fd0 := blkfrozen hb4 0
    have fd1 := blkfrozen hb4 1
    clear hc
    have HS := Lib.hid (fun W hW => S_pre (W := W) hb3 hb4 hcx hW)
    have HS' := Lib.hid (fun W0 u0 u1 hW => S_post (W0 := W0) u0 u1 hb3 hb4 hcx hpp hW)
    have HB4 := Lib.hid hb4
    clear hb3 hb4
    go_wp2
    go_loopg [9] lk.length (fun m i wr => ∃ j : Nat, i = .int .i64 j ∧ j + m = lk.length ∧ x ∉ lk.take j ∧ wr = w1)
    case atStart => exact ⟨0, rfl, by omega, by simp, rfl⟩
    case round =>
      obtain ⟨j, rfl, hjm, hno, hwr⟩ := hrel
      obtain rfl := hwr.symm
      clear hwr
      have HJM := Lib.hid hjm
      have HNO := Lib.hid hno
      have hjl : j ≤ lk.length := by omega
      clear hjm hno
      by_cases hj : j < lk.length
      · obtain ⟨b2, o2, rfl, hc2⟩ := HA.out (by omega)
        have hx := hc2 j hj
        clear hc2
        have hxb := (kk.cell (p := ⟨b2, o2 + j, none⟩) (cell_below hx) (fun x => x)).trans hx
        clear hx
        by_cases hxx : lk.getD j 0 = x
        · have hxx' : (lk.getD j 0 == x) = true := by simp only [hxx, beq_self_eq_true]
          have hmem : x ∈ lk := by rw [← hxx, List.getD_eq_getElem?_getD, List.getElem?_eq_getElem hj]; exact List.getElem_mem hj
          have HER := Lib.hid (erase_at lk j x hj HNO.out hxx)
          have hlen : j + (lk.length - (j + 1)) = (lk.erase x).length := by rw [← HER.out, List.length_append, List.length_take, List.length_drop]; omega
          have HLEN := Lib.hid hlen
          obtain ⟨rfl, rfl⟩ := HQs.out hmem
          clear hmem hlen hxx c0 c1 hcx fd0 fd1 cc0 cc1
          generalize lk.getD j 0 = y at *
          have z1 : (0 : Int) ≤ (j : Int) := by omega
          have z2 : (j : Int) ≤ (lk.length : Int) := by omega
          have z3 : (j : Int) ≤ (cq : Int) := by omega
          have z4 : (0 : Int) ≤ (j : Int) + 1 := by omega
          have z5 : (j : Int) + 1 ≤ (lk.length : Int) := by omega
          have z6 : ((j : Int) + 1).toNat = j + 1 := by omega
          have z7 : IntKind.i64.wrap ((j : Int) + 1) = (j : Int) + 1 := by
            rw [IntKind.wrap_i64]; omega
          have z13 : (j : Int) ≤ (j : Int) + 1 := by omega
          have z14 : ((j : Int) + 1 - ((j : Int) + 1)).toNat = 0 := by omega
          have z8 : (j : Int) + 1 ≤ (cq : Int) := by omega
          have z9 : (lk.length : Int) ≤ (cq : Int) := by omega
          have z10 : j ≤ cq := by omega
          have z11 : ((lk.length : Int) - ((j : Int) + 1)).toNat = lk.length - (j + 1) := by omega
          have z12 : ((cq : Int) - ((j : Int) + 1)).toNat = cq - (j + 1) := by omega
          have kD : Keeps (fun _ => False) w1 w1.drew := (Keeps.refl _ _).drew
          by_cases hc1 : cq = j + 1
          · subst hc1
            have HLEN0 := Lib.hid (show j = (lk.erase x).length by rw [← HLEN.out]; omega)
            have HER0 := Lib.hid (show lk.take j = lk.erase x by rw [← HER.out, List.drop_eq_nil_of_le (by omega), List.append_nil])
            go_wp2_with fail
            have hS := HS.out
            have hS' := HS'.out
            go_region_held3 (fun W => W.cell? ⟨w.heap.size, 0, none⟩ = some (.int .i64 R) ∧ W.cell? ⟨w.heap.size, 1, none⟩ = some (.slice (some ⟨b, o, none⟩) qs.length c) ∧ W.cell? ⟨b, o + k, none⟩ = some (.slice (some ⟨b2, o2, none⟩) lk.length (j + 1)) ∧ W.frozen? ⟨w.heap.size + 1, 0, none⟩ = false ∧ W.frozen? ⟨w.heap.size + 1, 1, none⟩ = false ∧ W.cell? ⟨w.heap.size + 1, 0, none⟩ = some (cellOr W ⟨w.heap.size + 1, 0, none⟩) ∧ W.cell? ⟨w.heap.size + 1, 1, none⟩ = some (cellOr W ⟨w.heap.size + 1, 1, none⟩)) (first | exact hS' _ _ _ (by repeat (first | (with_reducible assumption) | exact Keeps.refl _ _ | apply Keeps.alloc | apply Keeps.drew)) | exact hS _ (by repeat (first | (with_reducible assumption) | exact Keeps.refl _ _ | apply Keeps.alloc | apply Keeps.drew)))
              (first | (refine step_append_rds _ rfl _ _ 28 rfl w1.heap.size 3 (.int .i64 0) 1 8 Try.underlying28 Try.info3 rfl (by decide) (.slice none 0 0) 0 [] rfl (World.ownsRow_nil _ _ _ _) _ _ j _ rfl ((HR.out.take1 j (by omega)).keeps (kk.trans' (by repeat (first | (with_reducible assumption) | exact Keeps.refl _ _ | apply Keeps.alloc | apply Keeps.drew))) (fun _ _ _ x => x)) (fun u hu => ints_one' _ _ u (List.mem_of_mem_take hu)) (by unfold maxLen; omega) (by omega) (by simp) ?_; intro A1 p1 w3 hown3 hgrow3 hat3; replace hown3 : w3.ownsRow w1.heap.size 3 1 (.slice A1 j p1) j ((ints lk).take j) := (by simpa using hown3); have k3 : Keeps (fun _ => False) w1 w3 := Keeps.grown kD hgrow3 (fun k hk => by simp [Value.ownBlock] at hk); (try simp only [Nat.zero_add]))
                     | (refine step_append_rds _ rfl _ _ 28 rfl w1.heap.size 3 (.int .i64 0) 1 8 Try.underlying28 Try.info3 rfl (by decide) (.slice A1 j p1) j ((ints lk).take j) rfl hown3 (.slice (some ⟨b2, o2, none⟩) 0 0) (fun _ => True) 0 [] rfl (Rds.nil_ _ _ _ _ _) (fun u hu => by cases hu) (by unfold maxLen; omega) (by omega) k3.size ?_; intro A2 p2 w4 hown4 hgrow4 hat4; replace hown4 : w4.ownsRow w1.heap.size 3 1 (.slice A2 j p2) j ((ints lk).take j) := (by simpa using hown4); have k4 : Keeps (fun _ => False) w1 w4 := Keeps.grown k3 hgrow4 (fun k hk hlt => by have := (hown3.lt k hk).1; omega); (try simp only [Nat.add_zero]))
                     | (go_at_call 65; refine (ref3_put _ k _ (lk.erase x) _ qs (fun b => (ok b ∧ b < w.heap.size) ∨ w1.heap.size ≤ b) _ ((h.mono (ok' := fun b => (ok b ∧ b < w.heap.size) ∨ w1.heap.size ≤ b) (fun _ h hlt => .inl ⟨h, hlt⟩)).still (kk.trans' k4)) (rds_cast ((Rds.own hown4).mono (ok' := fun b => (ok b ∧ b < w.heap.size) ∨ w1.heap.size ≤ b) (fun _ h _ => .inr h)) HLEN0.out (by rw [ints_take, HER0.out])) hk hQ).mono ?_; rintro e w5 ⟨v5, rfl, h5, k5'⟩; have k5 : Keeps (fun _ => False) w1 w5 := k4.trans' k5'; clear k5'; obtain ⟨A5, c5, rfl⟩ := h5.slice_; rw [List.length_set] at h5))
            all_goals (
              have hb5 := k5.blk HB4.out (fun x => x)
              have r5 := kk.trans' k5
              have cc0 : w5.cell? ⟨w.heap.size + 1, 0, none⟩ = some _ := (blkcell hb5 0).trans rfl
              have cc1 : w5.cell? ⟨w.heap.size + 1, 1, none⟩ = some _ := (blkcell hb5 1).trans rfl
              have fd0 := blkfrozen hb5 0
              have fd1 := blkfrozen hb5 1
              go_wp2
              obtain ⟨g1, g2⟩ := ret_put (R := R) k4.size h5 hbd r5
              exact bodyPost_ret (v := .tuple #[.agg #[.int .i64 R, .slice A5 qs.length c5], .bool true]) (by simp [results, Try.results35, go_sem, cc0, cc1]) rfl ⟨_, rfl, g1, g2⟩)
          · go_wp2_with fail
            have hS := HS.out
            have hS' := HS'.out
            go_region_held3 (fun W => W.cell? ⟨w.heap.size, 0, none⟩ = some (.int .i64 R) ∧ W.cell? ⟨w.heap.size, 1, none⟩ = some (.slice (some ⟨b, o, none⟩) qs.length c) ∧ W.cell? ⟨b, o + k, none⟩ = some (.slice (some ⟨b2, o2, none⟩) lk.length cq) ∧ W.frozen? ⟨w.heap.size + 1, 0, none⟩ = false ∧ W.frozen? ⟨w.heap.size + 1, 1, none⟩ = false ∧ W.cell? ⟨w.heap.size + 1, 0, none⟩ = some (cellOr W ⟨w.heap.size + 1, 0, none⟩) ∧ W.cell? ⟨w.heap.size + 1, 1, none⟩ = some (cellOr W ⟨w.heap.size + 1, 1, none⟩)) (first | exact hS' _ _ _ (by repeat (first | (with_reducible assumption) | exact Keeps.refl _ _ | apply Keeps.alloc | apply Keeps.drew)) | exact hS _ (by repeat (first | (with_reducible assumption) | exact Keeps.refl _ _ | apply Keeps.alloc | apply Keeps.drew)))
              (first | (refine step_append_rds _ rfl _ _ 28 rfl w1.heap.size 3 (.int .i64 0) 1 8 Try.underlying28 Try.info3 rfl (by decide) (.slice none 0 0) 0 [] rfl (World.ownsRow_nil _ _ _ _) _ _ j _ rfl ((HR.out.take1 j (by omega)).keeps (kk.trans' (by repeat (first | (with_reducible assumption) | exact Keeps.refl _ _ | apply Keeps.alloc | apply Keeps.drew))) (fun _ _ _ x => x)) (fun u hu => ints_one' _ _ u (List.mem_of_mem_take hu)) (by unfold maxLen; omega) (by omega) (by simp) ?_; intro A1 p1 w3 hown3 hgrow3 hat3; replace hown3 : w3.ownsRow w1.heap.size 3 1 (.slice A1 j p1) j ((ints lk).take j) := (by simpa using hown3); have k3 : Keeps (fun _ => False) w1 w3 := Keeps.grown kD hgrow3 (fun k hk => by simp [Value.ownBlock] at hk); (try simp only [Nat.zero_add]))
                     | (refine step_append_rds _ rfl _ _ 28 rfl w1.heap.size 3 (.int .i64 0) 1 8 Try.underlying28 Try.info3 rfl (by decide) (.slice A1 j p1) j ((ints lk).take j) rfl hown3 _ _ (lk.length - (j + 1)) _ rfl ((HR.out.drop1 (j + 1) (by omega) _ (by first | exact .inl rfl | exact .inr (by omega)) _ (by omega)).keeps (kk.trans' k3) (fun _ _ _ x => x)) (fun u hu => ints_one' _ _ u (List.mem_of_mem_drop hu)) (by unfold maxLen; omega) (by omega) k3.size ?_; intro A2 p2 w4 hown4 hgrow4 hat4; have k4 : Keeps (fun _ => False) w1 w4 := Keeps.grown k3 hgrow4 (fun k hk hlt => by have := (hown3.lt k hk).1; omega))
                     | (go_at_call 65; refine (ref3_put _ k _ (lk.erase x) _ qs (fun b => (ok b ∧ b < w.heap.size) ∨ w1.heap.size ≤ b) _ ((h.mono (ok' := fun b => (ok b ∧ b < w.heap.size) ∨ w1.heap.size ≤ b) (fun _ h hlt => .inl ⟨h, hlt⟩)).still (kk.trans' k4)) (rds_cast ((Rds.own hown4).mono (ok' := fun b => (ok b ∧ b < w.heap.size) ∨ w1.heap.size ≤ b) (fun _ h _ => .inr h)) HLEN.out (by rw [ints_take, ints_drop, ← HER.out]; simp [ints])) hk hQ).mono ?_; rintro e w5 ⟨v5, rfl, h5, k5'⟩; have k5 : Keeps (fun _ => False) w1 w5 := k4.trans' k5'; clear k5'; obtain ⟨A5, c5, rfl⟩ := h5.slice_; rw [List.length_set] at h5))
            all_goals (
              have hb5 := k5.blk HB4.out (fun x => x)
              have r5 := kk.trans' k5
              have cc0 : w5.cell? ⟨w.heap.size + 1, 0, none⟩ = some _ := (blkcell hb5 0).trans rfl
              have cc1 : w5.cell? ⟨w.heap.size + 1, 1, none⟩ = some _ := (blkcell hb5 1).trans rfl
              have fd0 := blkfrozen hb5 0
              have fd1 := blkfrozen hb5 1
              go_wp2
              obtain ⟨g1, g2⟩ := ret_put (R := R) k4.size h5 hbd r5
              exact bodyPost_ret (v := .tuple #[.agg #[.int .i64 R, .slice A5 qs.length c5], .bool true]) (by simp [results, Try.results35, go_sem, cc0, cc1]) rfl ⟨_, rfl, g1, g2⟩)
        · have hxx' : (lk.getD j 0 == x) = false := by simpa using hxx
          have hno' : x ∉ lk.take (j + 1) := by
            rw [take_succ_getD hj]
            simp only [List.mem_append, List.mem_singleton, not_or]
            exact ⟨HNO.out, fun e => hxx e.symm⟩
          have HNO' := Lib.hid hno'
          clear hno' hxx
          generalize lk.getD j 0 = y at *
          go_wp2
          have hjm := HJM.out
          go_roundg (gk - 1)
          case measure => omega
          case rel => exact ⟨j + 1, by go_num, by omega, HNO'.out, rfl⟩
      · have e : j = lk.length := by omega
        have hx : x ∉ lk := by have := HNO.out; rwa [e, List.take_length] at this
        obtain ⟨e1, rfl⟩ := HQn.out hx
        obtain rfl := e1.symm
        clear hx e1
        go_wp2
        have k3 := (kk.setCell (p := ⟨w.heap.size + 1, 0, none⟩) (.inr (by simp)) (.int .i64 R)).setCell (p := ⟨w.heap.size + 1, 1, none⟩) (.inr (by simp)) (.slice (some ⟨b, o, none⟩) qs.length c)
        exact bodyPost_ret (v := .tuple #[.agg #[.int .i64 R, .slice (some ⟨b, o, none⟩) qs.length c], .bool false]) (by simp [results, Try.results35, go_sem, cc0, cc1]) rfl ⟨_, rfl, (h.still k3).mono (fun _ h _ => .inl h), k3⟩
  · rw [remQb, remQs, if_neg (fun h => hq h.1), decide_eq_false (fun h => hq h.1)]
    go_enter Try.func35, Try.ntmps35
    go_wp2_with fail
    refine (ref3_is _ _ _ _ _ _).mono ?_
    rintro e w1 ⟨rfl, k1⟩
    rw [isQ_dec, Bool.eq_false_iff.2 hq]
    have hb1 := k1.blk hblk1 (fun x => x)
    have hb2 := k1.blk hblk2 (fun x => x)
    have cc0 : w1.cell? ⟨w.heap.size, 0, none⟩ = some _ := (blkcell hb1 0).trans rfl
    have cc1 : w1.cell? ⟨w.heap.size, 1, none⟩ = some _ := (blkcell hb1 1).trans rfl
    have cd0 : w1.cell? ⟨w.heap.size + 1, 0, none⟩ = some _ := (blkcell hb2 0).trans rfl
    have cd1 : w1.cell? ⟨w.heap.size + 1, 1, none⟩ = some _ := (blkcell hb2 1).trans rfl
    have fd0 := blkfrozen hb2 0
    have fd1 := blkfrozen hb2 1
    have kk := hk0.trans' k1
    go_wp2
    have k3 := (kk.setCell (p := ⟨w.heap.size + 1, 0, none⟩) (.inr (by simp)) (.int .i64 R)).setCell (p := ⟨w.heap.size + 1, 1, none⟩) (.inr (by simp)) (.slice A qs.length c)
    exact bodyPost_ret (v := .tuple #[.agg #[.int .i64 R, .slice A qs.length c], .bool false]) (by simp [results, Try.results35, go_sem, cd0, cd1]) rfl ⟨_, rfl, (h.still k3).mono (fun _ h _ => .inl h), k3⟩
end Go.Proofs.Ytlfccifibhcacaa
