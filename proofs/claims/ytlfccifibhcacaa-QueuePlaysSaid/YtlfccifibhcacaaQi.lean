/- The document's pool of queues (becket/becketref03): Pop, by its contract over lists of lists. -/
import Derived.Test.YtlfccifibhcacaaQg
import Derived.Outline
namespace Go.Proofs.Ytlfccifibhcacaa
open Go.RowKit
set_option linter.unusedVariables false
set_option linter.unusedSimpArgs false

theorem S_pre {w2 W : World} {n : Nat} {c0 c1 cp d0 d1 : Value} {p : Addr} (hb3 : w2.heap[n]? = some (.cells #[c0, c1] 72 (0, 0))) (hb4 : w2.heap[n + 1]? = some (.cells #[d0, d1] 72 (0, 0))) (hcx : w2.cell? p = some cp) (hW : Keeps (fun _ => False) w2 W) :
    W.cell? ⟨n, 0, none⟩ = some c0 ∧ W.cell? ⟨n, 1, none⟩ = some c1 ∧ W.cell? p = some cp ∧ W.frozen? ⟨n + 1, 0, none⟩ = false ∧ W.frozen? ⟨n + 1, 1, none⟩ = false ∧ W.cell? ⟨n + 1, 0, none⟩ = some (cellOr W ⟨n + 1, 0, none⟩) ∧ W.cell? ⟨n + 1, 1, none⟩ = some (cellOr W ⟨n + 1, 1, none⟩) :=
  ⟨(blkcell (hW.blk hb3 (fun x => x)) 0).trans rfl, (blkcell (hW.blk hb3 (fun x => x)) 1).trans rfl, (hW.cell (p := p) (cell_below hcx) (fun x => x)).trans hcx, blkfrozen (hW.blk hb4 (fun x => x)) 0, blkfrozen (hW.blk hb4 (fun x => x)) 1, cellOr_of ((blkcell (hW.blk hb4 (fun x => x)) 0).trans rfl), cellOr_of ((blkcell (hW.blk hb4 (fun x => x)) 1).trans rfl)⟩
theorem S_post {w2 W0 : World} {n : Nat} {c0 c1 cp d0 d1 : Value} {p : Addr} (u0 u1 : Value) (hb3 : w2.heap[n]? = some (.cells #[c0, c1] 72 (0, 0))) (hb4 : w2.heap[n + 1]? = some (.cells #[d0, d1] 72 (0, 0))) (hcx : w2.cell? p = some cp) (hp : p.block ≠ n + 1) (hW : Keeps (fun _ => False) w2 W0) :
    (fun W => W.cell? ⟨n, 0, none⟩ = some c0 ∧ W.cell? ⟨n, 1, none⟩ = some c1 ∧ W.cell? p = some cp ∧ W.frozen? ⟨n + 1, 0, none⟩ = false ∧ W.frozen? ⟨n + 1, 1, none⟩ = false ∧ W.cell? ⟨n + 1, 0, none⟩ = some (cellOr W ⟨n + 1, 0, none⟩) ∧ W.cell? ⟨n + 1, 1, none⟩ = some (cellOr W ⟨n + 1, 1, none⟩)) ((W0.setCell ⟨n + 1, 0, none⟩ u0).setCell ⟨n + 1, 1, none⟩ u1) :=
  have k7 : Keeps (fun j => j = n + 1) W0 ((W0.setCell ⟨n + 1, 0, none⟩ u0).setCell ⟨n + 1, 1, none⟩ u1) := ((Keeps.refl (fun j => j = n + 1) W0).setCell (p := ⟨n + 1, 0, none⟩) (.inl rfl) _).setCell (p := ⟨n + 1, 1, none⟩) (.inl rfl) _
  have hcl := cell_below hcx
  ⟨(blkcell (k7.blk (hW.blk hb3 (fun x => x)) (by omega)) 0).trans rfl, (blkcell (k7.blk (hW.blk hb3 (fun x => x)) (by omega)) 1).trans rfl, (k7.cell (p := p) (Nat.lt_of_lt_of_le hcl hW.size) hp).trans ((hW.cell (p := p) hcl (fun x => x)).trans hcx), by simp only [World.frozen?_setCell]; exact blkfrozen (hW.blk hb4 (fun x => x)) 0, by simp only [World.frozen?_setCell]; exact blkfrozen (hW.blk hb4 (fun x => x)) 1, cellOr_set (cellOr_set ((blkcell (hW.blk hb4 (fun x => x)) 0).trans rfl)), cellOr_set (cellOr_set ((blkcell (hW.blk hb4 (fun x => x)) 1).trans rfl))⟩

/-- The put and the return behind it: the same in Push, Pop and Remove. -/
theorem ret_put {R : Nat} {ok : Nat → Prop} {w w2 w5 : World} {A5 : Option Addr} {c5 n2 n5 : Nat} {qs' : List (List Int)} (hn5 : w2.heap.size ≤ n5)
    (h5 : RL (fun b => (ok b ∧ b < w.heap.size ∨ w2.heap.size ≤ b) ∨ n5 ≤ b) w5 (.slice A5 n2 c5) qs') (hbd : w.heap.size + 2 ≤ w2.heap.size) (r5 : Keeps (fun _ => False) w w5) :
    RL (fun b => ok b ∨ w.heap.size ≤ b) ((w5.setCell ⟨w.heap.size + 1, 0, none⟩ (.int .i64 R)).setCell ⟨w.heap.size + 1, 1, none⟩ (.slice A5 n2 c5)) (.slice A5 n2 c5) qs' ∧ Keeps (fun _ => False) w ((w5.setCell ⟨w.heap.size + 1, 0, none⟩ (.int .i64 R)).setCell ⟨w.heap.size + 1, 1, none⟩ (.slice A5 n2 c5)) := by
  have k6 : Keeps (fun _ => False) w ((w5.setCell ⟨w.heap.size + 1, 0, none⟩ (.int .i64 R)).setCell ⟨w.heap.size + 1, 1, none⟩ (.slice A5 n2 c5)) := (r5.setCell (.inr (by simp)) _).setCell (.inr (by simp)) _
  have k7 : Keeps (fun j => j = w.heap.size + 1) w5 ((w5.setCell ⟨w.heap.size + 1, 0, none⟩ (.int .i64 R)).setCell ⟨w.heap.size + 1, 1, none⟩ (.slice A5 n2 c5)) := ((Keeps.refl (fun j => j = w.heap.size + 1) w5).setCell (p := ⟨w.heap.size + 1, 0, none⟩) (.inl rfl) _).setCell (p := ⟨w.heap.size + 1, 1, none⟩) (.inl rfl) _
  exact ⟨(h5.keeps k7 (fun j hj hlt => by rcases hj with (⟨_, hj⟩ | hj) | hj <;> omega)).mono (fun b hb _ => by rcases hb with (⟨hb, _⟩ | hb) | hb; exact .inl hb; exact .inr (by omega); exact .inr (by omega)), k6⟩

theorem Rds.drop1 {ok : Nat → Prop} {w : World} {b o n c : Nat} {xs : List Value} (h : Rds ok w (.slice (some ⟨b, o, none⟩) n c) 1 n xs) (j : Nat) (hj : j ≤ n) (A' : Option Addr) (hA : A' = some ⟨b, o + j, none⟩ ∨ j = n) (c' : Nat) (hc' : n - j ≤ c') : Rds ok w (.slice A' (n - j) c') 1 (n - j) (xs.drop j) := by
  obtain ⟨hl, A, c1, hv, hmc, hh⟩ := h
  injection hv with hv1 hv2 hv3
  subst hv1
  refine ⟨by rw [List.length_drop, hl, Nat.mul_one, Nat.mul_one], A', c', rfl, hc', ?_⟩
  by_cases e : j = n
  · exact .inl (by omega)
  · obtain ⟨b', o', hA', hok, hlt, hh⟩ := hh.resolve_left (by omega)
    injection hA' with hA'
    injection hA' with hb ho
    subst hb ho
    refine .inr ⟨b, o + j, hA.resolve_right e, hok, hlt, fun i u hu => ?_⟩
    rw [List.getElem?_drop] at hu
    rw [Nat.add_assoc]
    exact hh _ u hu
theorem Rds.take1 {ok : Nat → Prop} {w : World} {A : Option Addr} {n c : Nat} {xs : List Value} (h : Rds ok w (.slice A n c) 1 n xs) (j : Nat) (hj : j ≤ n) : Rds ok w (.slice A j c) 1 j (xs.take j) := by
  obtain ⟨hl, A', c1, hv, hmc, hh⟩ := h
  injection hv with hv1 hv2 hv3
  subst hv1 hv3
  refine ⟨by rw [List.length_take, hl, Nat.mul_one, Nat.mul_one]; omega, A, c, rfl, by omega, ?_⟩
  rcases hh with hh | ⟨b, o, hA', hok, hlt, hh⟩
  · exact .inl (by omega)
  · exact .inr ⟨b, o, hA', hok, hlt, fun i u hu => hh i u (by
      rw [List.getElem?_take] at hu
      split at hu
      · exact hu
      · cases hu)⟩

set_option maxHeartbeats 2000000 in
set_option maxRecDepth 100000 in
theorem ref3_pop (R : Nat) (q : Int) (v : Value) (qs : List (List Int)) (ok : Nat → Prop) (w : World) (h : RL ok w v qs) (hQ : qs.length ≤ 64) :
    Calls Try.prog 37 #[.agg #[.int .i64 R, v], .int .i64 q] w fun e w' => ∃ v', e = .returned (.tuple #[.agg #[.int .i64 R, v'], .int .i64 (popQx qs q), .int .i64 (popQe qs q)]) ∧ RL (fun b => ok b ∨ w.heap.size ≤ b) w' v' (popQs qs q) ∧ Keeps (fun _ => False) w w' := by
  obtain ⟨A, c, rfl⟩ := h.slice_
  have hblk := heap_alloc_new w (.cells #[.int .i64 R, .slice A qs.length c] 72)
  have hblk2 := heap_alloc_new (w.alloc (.cells #[.int .i64 R, .slice A qs.length c] 72)) (.cells #[.int .i64 0, .slice none 0 0] 72)
  rw [World.size_alloc] at hblk2
  have hblk1 := blkalloc hblk (.cells #[.int .i64 0, .slice none 0 0] 72)
  have hk0 : Keeps (fun _ => False) w ((w.alloc (.cells #[.int .i64 R, .slice A qs.length c] 72)).alloc (.cells #[.int .i64 0, .slice none 0 0] 72)) := ((Keeps.refl _ _).alloc _).alloc _
  by_cases he : isQ qs q = true ∧ qAt qs q ≠ []
  · obtain ⟨hq, hne⟩ := he
    have HF : popQe qs q = 0 := by rw [popQe, if_pos hq, if_neg hne]
    obtain ⟨k, rfl, hk⟩ := isQ_yes hq
    obtain ⟨b, o, Aq, cq, rfl, hb, hc, hr⟩ := h.at_ k hk
    rw [popQs, if_pos hq, popQx, if_pos hq, Int.toNat_natCast, qAt_nat, HF]
    have hX : popQx qs k = (qs.getD k []).headD 0 := by rw [popQx, if_pos hq, qAt_nat]
    rw [qAt_nat] at hne
    generalize hlkq : qs.getD k [] = lk at hc hr hne hX ⊢
    have HLK := Lib.hid hlkq
    clear hlkq
    obtain ⟨x, l, rfl⟩ : ∃ x l, lk = x :: l := by cases lk with | nil => exact absurd rfl hne | cons x l => exact ⟨x, l, rfl⟩
    obtain ⟨_, _, _, hv, hmc, hA⟩ := hr.at_int
    injection hv with hv1 hv2 hv3
    subst hv1 hv3
    obtain ⟨b2, o2, rfl, hc2⟩ := hA (by simp)
    simp only [List.headD_cons, List.tail_cons] at hX ⊢
    rw [List.length_cons] at hc hr hmc
    have HR := Lib.hid hr
    clear hr hc2 hA hne
    have z1 : (1 : Int) ≤ (l.length : Int) + 1 := by omega
    have z2 : (1 : Int) ≤ ((l.length + 1 : Nat) : Int) := by omega
    have z3 : (0 : Int) ≤ (l.length : Int) := by omega
    have z4 : (l.length : Int) + 1 ≤ (cq : Int) := by omega
    have z5 : (1 : Int) ≤ (cq : Int) := by omega
    by_cases hc1 : cq = 1
    all_goals
      go_enter Try.func37, Try.ntmps37
      go_wp2_with fail
      refine (ref3_first _ _ _ qs ok _ (h.still hk0)).mono ?_
      rintro e w2 ⟨rfl, k2⟩
      rw [HF, hX]
      have kk := hk0.trans' k2
      have hbd : w.heap.size + 2 ≤ w2.heap.size := by have := k2.size; simpa using this
      have hb3 := k2.blk hblk1 (fun x => x)
      have hb4 := k2.blk hblk2 (fun x => x)
      have hcx := (kk.cell (p := ⟨b, o + k, none⟩) hb (fun x => x)).trans hc
      have hpp : (⟨b, o + k, none⟩ : Addr).block ≠ w.heap.size + 1 := by show b ≠ _; omega
      have hS := fun W hW => S_pre (W := W) hb3 hb4 hcx hW
      have hS' := fun W0 u0 u1 hW => S_post (W0 := W0) u0 u1 hb3 hb4 hcx hpp hW
      have HB4 := Lib.hid hb4
      clear hc hb3 hb4 hcx
      go_wp2_with fail
      go_region_held3 (fun W => W.cell? ⟨w.heap.size, 0, none⟩ = some (.int .i64 R) ∧ W.cell? ⟨w.heap.size, 1, none⟩ = some (.slice (some ⟨b, o, none⟩) qs.length c) ∧ W.cell? ⟨b, o + k, none⟩ = some (.slice (some ⟨b2, o2, none⟩) (l.length + 1) cq) ∧ W.frozen? ⟨w.heap.size + 1, 0, none⟩ = false ∧ W.frozen? ⟨w.heap.size + 1, 1, none⟩ = false ∧ W.cell? ⟨w.heap.size + 1, 0, none⟩ = some (cellOr W ⟨w.heap.size + 1, 0, none⟩) ∧ W.cell? ⟨w.heap.size + 1, 1, none⟩ = some (cellOr W ⟨w.heap.size + 1, 1, none⟩)) (first | exact hS' _ _ _ (by repeat (first | (with_reducible assumption) | exact Keeps.refl _ _ | apply Keeps.alloc | apply Keeps.drew)) | exact hS _ (by repeat (first | (with_reducible assumption) | exact Keeps.refl _ _ | apply Keeps.alloc | apply Keeps.drew)))
        (first | (go_at_call 65; refine (ref3_put _ k _ l _ qs (fun b => (ok b ∧ b < w.heap.size) ∨ w2.heap.size ≤ b) _ ((h.mono (ok' := fun b => (ok b ∧ b < w.heap.size) ∨ w2.heap.size ≤ b) (fun _ h hlt => .inl ⟨h, hlt⟩)).still kk.drew) (((HR.out.drop1 1 (by omega) _ (by first | exact .inl rfl | exact .inr (by omega)) _ (by omega)).mono (ok' := fun b => (ok b ∧ b < w.heap.size) ∨ w2.heap.size ≤ b) (fun _ h hlt => .inl ⟨h, hlt⟩)).keeps kk.drew (fun _ _ _ x => x)) hk hQ).mono ?_; rintro e w5 ⟨v5, rfl, h5, k5'⟩; have k5 : Keeps (fun _ => False) w2 w5 := (Keeps.refl _ _).drew.trans' k5'; clear k5'; obtain ⟨A5, c5, rfl⟩ := h5.slice_; rw [List.length_set] at h5))
      all_goals (
        have hb5 := k5.blk HB4.out (fun x => x)
        have r5 := kk.trans' k5
        have cc0 : w5.cell? ⟨w.heap.size + 1, 0, none⟩ = some _ := (blkcell hb5 0).trans rfl
        have cc1 : w5.cell? ⟨w.heap.size + 1, 1, none⟩ = some _ := (blkcell hb5 1).trans rfl
        have fd0 := blkfrozen hb5 0
        have fd1 := blkfrozen hb5 1
        go_wp2
        obtain ⟨g1, g2⟩ := ret_put (R := R) (Nat.le_refl _) h5 hbd r5
        exact bodyPost_ret (v := .tuple #[.agg #[.int .i64 R, .slice A5 qs.length c5], .int .i64 x, .int .i64 0]) (by simp [results, Try.results37, go_sem, cc0, cc1]) rfl ⟨_, rfl, g1, g2⟩)
  · have hE : popQe qs q ≠ 0 := by
      rw [popQe]
      split
      · rename_i hq
        rw [if_pos (Classical.byContradiction fun hne => he ⟨hq, hne⟩)]; decide
      · decide
    have hX : popQx qs q = 0 := by
      rw [popQx]
      split
      · rename_i hq
        rw [Classical.byContradiction fun hne => he ⟨hq, hne⟩]; rfl
      · rfl
    have hQs : popQs qs q = qs := by
      rw [popQs]
      split
      · rename_i hq
        obtain ⟨k, rfl, hk⟩ := isQ_yes hq
        have := Classical.byContradiction fun hne => he ⟨hq, hne⟩
        rw [qAt_nat] at this
        rw [qAt_nat, this, Int.toNat_natCast, List.tail_nil]
        refine List.ext_getElem? (fun j => ?_)
        rw [List.getElem?_set]
        split
        · rename_i e; subst e
          rw [List.getD_eq_getElem?_getD, List.getElem?_eq_getElem hk, Option.getD_some] at this
          simp [hk, this]
        · rfl
      · rfl
    rw [hX, hQs]
    have hE1 : (popQe qs q != 0) = true := by simpa using hE
    generalize hEE : popQe qs q = E at hE hE1 ⊢
    go_enter Try.func37, Try.ntmps37
    go_wp2_with fail
    refine (ref3_first _ _ _ qs ok _ (h.still hk0)).mono ?_
    rintro e w2 ⟨rfl, k2⟩
    rw [hX, hEE]
    have kk := hk0.trans' k2
    have hb3 := k2.blk hblk1 (fun x => x)
    have hb4 := k2.blk hblk2 (fun x => x)
    have c0 : w2.cell? ⟨w.heap.size, 0, none⟩ = some _ := (blkcell hb3 0).trans rfl
    have c1 : w2.cell? ⟨w.heap.size, 1, none⟩ = some _ := (blkcell hb3 1).trans rfl
    have cc0 : w2.cell? ⟨w.heap.size + 1, 0, none⟩ = some _ := (blkcell hb4 0).trans rfl
    have cc1 : w2.cell? ⟨w.heap.size + 1, 1, none⟩ = some _ := (blkcell hb4 1).trans rfl
    have fd0 := blkfrozen hb4 0
    have fd1 := blkfrozen hb4 1
    go_wp2
    have k3 := (kk.setCell (p := ⟨w.heap.size + 1, 0, none⟩) (.inr (by simp)) (.int .i64 R)).setCell (p := ⟨w.heap.size + 1, 1, none⟩) (.inr (by simp)) (.slice A qs.length c)
    exact bodyPost_ret (v := .tuple #[.agg #[.int .i64 R, .slice A qs.length c], .int .i64 0, .int .i64 E]) (by simp [results, Try.results37, go_sem, cc0, cc1]) rfl ⟨_, rfl, (h.still k3).mono (fun _ h _ => .inl h), k3⟩
end Go.Proofs.Ytlfccifibhcacaa
