/- The document's buckets (becket/becketref24): Where, Fall, Flush, by their contracts over lists of lists. -/
import Derived.Test.YtfnlmnpfflnaiaaBe
namespace Go.Proofs.Ytfnlmnpfflnaiaa
open Go.RowKit
set_option linter.unusedVariables false
set_option linter.unusedSimpArgs false

set_option maxHeartbeats 1000000 in
set_option maxRecDepth 100000 in
theorem r24_where (v : Value) (p : Int) (bs : List (List Int)) (ok : Nat → Prop) (w : World) (h : RL ok w v bs) (hs : bs.length ≤ 4) (hl : ∀ q, (bs.getD q []).length ≤ 2000) :
    Calls Try.prog 15 #[v, .int .i64 p] w fun e w' => e = .returned (.tuple #[.int .i64 (whereK bs p), .bool (whereB bs p)]) ∧ w = w' := by
  obtain ⟨A, c, rfl⟩ := h.slice_
  have H := Lib.hid h
  clear h
  go_enter Try.func15, Try.ntmps15
  go_wp2
  go_loopg [6] bs.length (fun m i wr => ∃ j : Nat, i = .int .i64 j ∧ j + m = bs.length ∧ (∀ q, q < j → p ∉ bs.getD q []) ∧ wr = w)
  case atStart => exact ⟨0, rfl, by omega, fun q hq => by omega, rfl⟩
  case round =>
    obtain ⟨j, rfl, hjm, hno, hwr⟩ := hrel
    obtain rfl := hwr.symm
    have HJM := Lib.hid hjm
    have HNO := Lib.hid hno
    have hjl : j ≤ bs.length := by omega
    clear hjm hno hwr
    by_cases hj : j < bs.length
    · obtain ⟨b, o, Aq, cq, rfl, hb, hc, hr⟩ := H.out.at_ j hj
      have HW := Lib.hid (fun (hp : p ∈ bs.getD j []) => whereK_at hj hp HNO.out)
      have hlj := hl j
      generalize hlk : bs.getD j [] = lk at hc hr hlj HW
      have HLK := Lib.hid hlk
      clear hlk
      obtain ⟨_, _, _, hv, hmc, hA⟩ := rds_int hr
      injection hv with hv1 hv2 hv3
      subst hv1 hv3
      have HA := Lib.hid hA
      clear hr hA
      obtain ⟨gq, hgq⟩ : ∃ gq : Nat, gq = gk := ⟨_, rfl⟩
      rw [← hgq] at HJM
      go_wp2
      go_loopg [7] lk.length (fun m i wr => ∃ i' : Nat, i = .int .i64 i' ∧ i' + m = lk.length ∧ p ∉ lk.take i' ∧ wr = w)
      case atStart => exact ⟨0, rfl, by omega, by simp, rfl⟩
      case round =>
        obtain ⟨i', rfl, him, hni, hwr⟩ := hrel
        obtain rfl := hwr.symm
        have HIM := Lib.hid him
        have HNI := Lib.hid hni
        have hil : i' ≤ lk.length := by omega
        clear him hni hwr
        by_cases hi : i' < lk.length
        · obtain ⟨b2, o2, rfl, hc2⟩ := HA.out (by omega)
          have hx := hc2 i' hi
          clear hc2
          have hg : lk.getD i' 0 = lk[i'] := by simp [List.getD, List.getElem?_eq_getElem hi]
          by_cases hxx : lk.getD i' 0 = p
          · have hxb : (lk.getD i' 0 == p) = true := by simpa using hxx
            have HX := Lib.hid (HW.out (by rw [← hxx, hg]; exact List.getElem_mem hi))
            clear hxx hg
            generalize lk.getD i' 0 = y at *
            go_wp2
            go_ret2
            exact ⟨by rw [HX.out.1, HX.out.2]; rfl, rfl⟩
          · have hxb : (lk.getD i' 0 == p) = false := by simpa using hxx
            have HNI' := Lib.hid (show p ∉ lk.take (i' + 1) by
              rw [List.take_succ_eq_append_getElem hi]
              simp only [List.mem_append, List.mem_singleton, not_or]
              exact ⟨HNI.out, by rw [← hg]; exact fun e => hxx e.symm⟩)
            clear hxx hg
            generalize lk.getD i' 0 = y at *
            go_wp2
            have him := HIM.out
            go_roundg (gk - 1)
            case measure => omega
            case rel => exact ⟨i' + 1, by go_num, by omega, HNI'.out, rfl⟩
        · have e : i' = lk.length := by omega
          have HN := Lib.hid (show ∀ q, q < j + 1 → p ∉ bs.getD q [] from fun q hq => by
            by_cases e2 : q = j
            · subst e2; rw [HLK.out]; have := HNI.out; rwa [e, List.take_length] at this
            · exact HNO.out q (by omega))
          go_wp2
          have hjm := HJM.out
          go_roundg (gq - 1)
          case measure => omega
          case rel => exact ⟨j + 1, by go_num, by omega, HN.out, rfl⟩
    · have e : j = bs.length := by omega
      have HX := Lib.hid (where_no (p := p) (bs := bs) (by rw [← e]; exact HNO.out))
      go_wp2
      go_ret2
      exact ⟨by rw [HX.out.1, HX.out.2]; rfl, rfl⟩

set_option maxHeartbeats 1000000 in
set_option maxRecDepth 100000 in
theorem r24_fall (v : Value) (k p : Int) (bs : List (List Int)) (ok : Nat → Prop) (w : World) (h : RL ok w v bs) (hs : bs.length ≤ 4) (hl : ∀ q, (bs.getD q []).length ≤ 1000) :
    Calls Try.prog 13 #[v, .int .i64 k, .int .i64 p] w fun e w' => ∃ v', e = .returned (.tuple #[v', .int .i64 (fallE bs k p)]) ∧ RL (fun b => ok b ∨ w.heap.size ≤ b) w' v' (fallBs bs k p) ∧ Keeps (fun _ => False) w w' := by
  obtain ⟨A, c, rfl⟩ := h.slice_
  have stay := h.mono (ok' := fun b => ok b ∨ w.heap.size ≤ b) (fun _ h _ => .inl h)
  by_cases hk : isQ bs k = true
  · obtain ⟨k, rfl, hkk⟩ := isQ_yes hk
    have z0 : ¬ ((k : Int) < 0) := by omega
    have z1 : ¬ ((bs.length : Int) ≤ (k : Int)) := by omega
    by_cases hp0 : p < 0
    · have hp : pOk p = false := by simp [pOk]; omega
      rw [show fallE bs k p = 8 by rw [fallE, if_neg (by simp [hp])], show fallBs bs k p = bs by rw [fallBs, if_neg (by simp [hp])]]
      go_enter Try.func13, Try.ntmps13
      go_wp2
      go_ret2
      exact ⟨_, rfl, stay, Keeps.refl _ _⟩
    · by_cases hp16 : 15 < p
      · have hp : pOk p = false := by simp [pOk]; omega
        rw [show fallE bs k p = 8 by rw [fallE, if_neg (by simp [hp])], show fallBs bs k p = bs by rw [fallBs, if_neg (by simp [hp])]]
        go_enter Try.func13, Try.ntmps13
        go_wp2
        go_ret2
        exact ⟨_, rfl, stay, Keeps.refl _ _⟩
      · have hp : pOk p = true := by simp [pOk]; omega
        by_cases hw : whereB bs p = true
        · rw [show fallE bs k p = 7 by rw [fallE, if_pos ⟨hk, hp⟩, if_pos hw], show fallBs bs k p = bs by rw [fallBs, if_neg (by simp [hw])]]
          go_enter Try.func13, Try.ntmps13
          go_wp2_with fail
          refine (r24_where _ p bs ok _ h hs (fun q => by have := hl q; omega)).mono ?_
          rintro e w1 ⟨rfl, rfl⟩
          rw [hw]
          go_wp2_with fail
          go_ret2
          exact ⟨_, rfl, stay, Keeps.refl _ _⟩
        · have hw' : whereB bs p = false := by simpa using hw
          rw [show fallE bs k p = 0 by rw [fallE, if_pos ⟨hk, hp⟩, if_neg hw], show fallBs bs k p = bs.set k (bs.getD k [] ++ [p]) by rw [fallBs, if_pos ⟨hk, hp, hw'⟩, Int.toNat_natCast, qAt_nat]]
          obtain ⟨b, o, Aq, cq, rfl, hb, hc, hr⟩ := h.at_ k hkk
          have hlk := hl k
          generalize bs.getD k [] = lk at hc hr hlk ⊢
          have HR := Lib.hid hr
          clear hr
          go_enter Try.func13, Try.ntmps13
          go_wp2_with fail
          refine (r24_where _ p bs ok _ h hs (fun q => by have := hl q; omega)).mono ?_
          rintro e w1 ⟨rfl, rfl⟩
          rw [hw']
          go_wp2_with (at_builtin; refine wpList_append_rds _ rfl _ _ 33 rfl w.heap.size 3 (.int .i64 0) 1 8 Try.underlying33 Try.info3 rfl (by decide) (.slice none 0 0) 0 [] rfl (World.ownsRow_nil _ _ _ _) _ _ _ _ rfl HR.out (ints_one' _ _) ?c2 ?c3 ?c4 ?_)
          case c2 => unfold maxLen; omega
          case c3 => omega
          case c4 => exact Nat.le_refl _
          intro A1 p1 w3 hown3 hgrow3 hat3
          replace hown3 : w3.ownsRow w.heap.size 3 1 (.slice A1 lk.length p1) lk.length (ints lk) := by simpa using hown3
          have k3 : Keeps (fun _ => False) w w3 := (Keeps.refl _ _).grown hgrow3 (fun k hk => by simp [Value.ownBlock] at hk)
          go_wp2_with (at_builtin; refine wpList_append_rds _ rfl _ _ 33 rfl w.heap.size 3 (.int .i64 0) 1 8 Try.underlying33 Try.info3 rfl (by decide) (.slice A1 _ p1) _ _ rfl (hown3.alloc _) _ _ _ _ rfl (rds_one' _ _ _) (one_one _ rfl) ?c2 ?c3 ?c4 ?_)
          case c2 => unfold maxLen; omega
          case c3 => omega
          case c4 => have := k3.size; simp; omega
          intro A2 p2 w4 hown4 hgrow4 hat4
          have k4 : Keeps (fun _ => False) w w4 := (k3.alloc _).grown hgrow4 (fun k hk hlt => by have := (hown3.lt k hk).1; omega)
          have hl4 : w4.ownsRow w.heap.size 3 1 (.slice A2 (lk.length + 1) p2) (lk ++ [p]).length (ints (lk ++ [p])) := by simpa [ints] using hown4
          go_wp2_with fail
          refine (r24_put k _ (lk ++ [p]) _ bs (fun b => ok b ∨ w.heap.size ≤ b) _ ((h.still k4).mono (fun _ h _ => .inl h)) ((Rds.own hl4).mono (ok' := fun b => ok b ∨ w.heap.size ≤ b) (fun _ h _ => .inr h)) hkk (by omega)).mono ?_
          rintro e w5 ⟨v5, rfl, h5, k5⟩
          go_wp2
          go_ret2
          have z4 := k4.size
          exact ⟨_, rfl, h5.mono (fun b hb _ => by rcases hb with hb | hb; exact hb; exact .inr (by omega)), k4.trans' k5⟩
  · rw [show fallE bs k p = 8 by rw [fallE, if_neg (fun x => hk x.1)], show fallBs bs k p = bs by rw [fallBs, if_neg (fun x => hk x.1)]]
    by_cases h0 : k < 0
    · go_enter Try.func13, Try.ntmps13
      go_wp2
      go_ret2
      exact ⟨_, rfl, stay, Keeps.refl _ _⟩
    · have h1 : (bs.length : Int) ≤ k := by rcases isQ_no hk with h | h; exact absurd h h0; exact h
      go_enter Try.func13, Try.ntmps13
      go_wp2
      go_ret2
      exact ⟨_, rfl, stay, Keeps.refl _ _⟩

set_option maxHeartbeats 2000000 in
set_option maxRecDepth 100000 in
theorem r24_flush (v : Value) (k : Int) (bs : List (List Int)) (ok : Nat → Prop) (w : World) (h : RL ok w v bs) (hs : bs.length ≤ 4) :
    Calls Try.prog 10 #[v, .int .i64 k] w fun e w' => ∃ v' u, e = .returned (.tuple #[v', u, .int .i64 (flushE bs k)]) ∧ RL (fun b => ok b ∨ w.heap.size ≤ b) w' v' (flushBs bs k) ∧ Rds ok w' u 1 (listQ bs k).length (ints (listQ bs k)) ∧ Keeps (fun _ => False) w w' := by
  obtain ⟨A, c, rfl⟩ := h.slice_
  have stay := h.mono (ok' := fun b => ok b ∨ w.heap.size ≤ b) (fun _ h _ => .inl h)
  by_cases hk : isQ bs k = true
  · rw [flushE, flushBs, listQ, if_pos hk, if_pos hk, if_pos hk]
    obtain ⟨k, rfl, hkk⟩ := isQ_yes hk
    rw [Int.toNat_natCast, qAt_nat]
    have z0 : ¬ ((k : Int) < 0) := by omega
    have z1 : ¬ ((bs.length : Int) ≤ (k : Int)) := by omega
    have z2 : (0 : Int) ≤ (k : Int) := by omega
    have z3 : (k : Int) < (bs.length : Int) := by omega
    obtain ⟨b, o, Aq, cq, rfl, hb, hc, hr⟩ := h.at_ k hkk
    generalize bs.getD k [] = lk at hc hr ⊢
    have HR := Lib.hid hr
    clear hr
    go_enter Try.func10, Try.ntmps10
    go_wp2_with fail
    have hS : ∀ W, Keeps (fun _ => False) w W → W.cell? ⟨b, o + k, none⟩ = some (.slice Aq lk.length cq) := fun W hW => (hW.cell (p := ⟨b, o + k, none⟩) hb (fun x => x)).trans hc
    clear hc
    go_region_held3 (fun W => W.cell? ⟨b, o + k, none⟩ = some (.slice Aq lk.length cq)) (exact hS _ (by repeat (first | (with_reducible assumption) | exact Keeps.refl _ _ | apply Keeps.drew)))
      (first | (go_at_call 23; refine (r24_put k _ [] (.slice none 0 0) bs ok _ (h.still (by repeat (first | (with_reducible assumption) | exact Keeps.refl _ _ | apply Keeps.drew))) (Rds.nil_ _ _ _ _ _) hkk (by omega)).mono ?_; rintro e w5 ⟨v5, rfl, h5, k5'⟩; have k5 : Keeps (fun _ => False) w w5 := Keeps.trans' (by repeat (first | (with_reducible assumption) | exact Keeps.refl _ _ | apply Keeps.drew)) k5'; obtain ⟨A5, c5, rfl⟩ := h5.slice_; rw [List.length_set] at h5))
    all_goals (
      go_wp2_with fail
      exact bodyPost_ret (v := .tuple #[.slice A5 bs.length c5, .slice Aq lk.length cq, .int .i64 0]) (by simp [results, Try.results10, go_sem]) rfl ⟨_, _, rfl, h5, HR.out.keeps k5 (fun _ _ _ x => x), k5⟩)
  · rw [flushE, flushBs, listQ, if_neg hk, if_neg hk, if_neg hk]
    by_cases h0 : k < 0
    · go_enter Try.func10, Try.ntmps10
      go_wp2
      exact bodyPost_ret (v := .tuple #[.slice A bs.length c, .slice none 0 0, .int .i64 8]) (by simp [results, Try.results10, go_sem]) rfl ⟨_, _, rfl, stay, Rds.nil_ _ _ _ _ _, Keeps.refl _ _⟩
    · have h1 : (bs.length : Int) ≤ k := by rcases isQ_no hk with h | h; exact absurd h h0; exact h
      go_enter Try.func10, Try.ntmps10
      go_wp2
      exact bodyPost_ret (v := .tuple #[.slice A bs.length c, .slice none 0 0, .int .i64 8]) (by simp [results, Try.results10, go_sem]) rfl ⟨_, _, rfl, stay, Rds.nil_ _ _ _ _ _, Keeps.refl _ _⟩
end Go.Proofs.Ytfnlmnpfflnaiaa
