/- The document's pool of queues (becket/becketref03): Push, Pop, Remove, by their contracts over lists of lists. -/
import Derived.Test.YtlfccifibhcacaaQf
import Derived.Outline
namespace Go.Proofs.Ytlfccifibhcacaa
open Go.RowKit
set_option linter.unusedVariables false
set_option linter.unusedSimpArgs false

/-! ### Push, Pop, Remove -/

def cellOr (W : World) (p : Addr) : Value := (W.cell? p).getD undef
theorem cellOr_of {W : World} {p : Addr} {v : Value} (h : W.cell? p = some v) : W.cell? p = some (cellOr W p) := by rw [cellOr, h]; rfl
theorem cellOr_set {W : World} {p q : Addr} {u v : Value} (h : W.cell? p = some v) : (W.setCell q u).cell? p = some (cellOr (W.setCell q u) p) := by
  by_cases e : q = p
  · rw [e]; exact cellOr_of (World.cell?_setCell_same _ _ u h)
  · exact cellOr_of ((World.cell?_setCell_other _ _ _ _ e).trans h)

theorem hW_lt {w w2 : World} {o : Obj} (h : w2.heap[w.heap.size + 1]? = some o) : w.heap.size + 2 ≤ w2.drew.heap.size := by
  have := blklt h
  show w.heap.size + 2 ≤ w2.heap.size
  omega

set_option maxHeartbeats 2000000 in
set_option maxRecDepth 100000 in
theorem ref3_push (R : Nat) (q x : Int) (v : Value) (qs : List (List Int)) (ok : Nat → Prop) (w : World) (h : RL ok w v qs) (hR : R ≤ 1024) (hQ : qs.length ≤ 64) (hs : sumQ (fun k => (qs.getD k []).length) qs.length ≤ 1024) :
    Calls Try.prog 39 #[.agg #[.int .i64 R, v], .int .i64 q, .int .i64 x] w fun e w' => ∃ v', e = .returned (.tuple #[.agg #[.int .i64 R, v'], .int .i64 (pushQe R qs q)]) ∧ RL (fun b => ok b ∨ w.heap.size ≤ b) w' v' (pushQs R qs q x) ∧ Keeps (fun _ => False) w w' := by
  obtain ⟨A, c, rfl⟩ := h.slice_
  have hblk := heap_alloc_new w (.cells #[.int .i64 R, .slice A qs.length c] 72)
  have hblk2 := heap_alloc_new (w.alloc (.cells #[.int .i64 R, .slice A qs.length c] 72)) (.cells #[.int .i64 0, .slice none 0 0] 72)
  rw [World.size_alloc] at hblk2
  have hblk1 := blkalloc hblk (.cells #[.int .i64 0, .slice none 0 0] 72)
  have hk0 : Keeps (fun _ => False) w ((w.alloc (.cells #[.int .i64 R, .slice A qs.length c] 72)).alloc (.cells #[.int .i64 0, .slice none 0 0] 72)) := ((Keeps.refl _ _).alloc _).alloc _
  by_cases hq : isQ qs q = true
  · by_cases hf : freeQ R qs = 0
    · rw [pushQe, pushQs, if_pos hq, if_pos hf, if_neg (fun h => h.2 hf)]
      go_enter Try.func39, Try.ntmps39
      go_wp2_with fail
      refine (ref3_is _ _ _ _ _ _).mono ?_
      rintro e w1 ⟨rfl, k1⟩
      rw [isQ_dec, hq]
      have hb1 := k1.blk hblk1 (fun x => x)
      have hb2 := k1.blk hblk2 (fun x => x)
      have cb0 : w1.cell? ⟨w.heap.size, 0, none⟩ = some _ := (blkcell hb1 0).trans rfl
      have cb1 : w1.cell? ⟨w.heap.size, 1, none⟩ = some _ := (blkcell hb1 1).trans rfl
      have hh := (h.still hk0).still k1
      go_wp2_with fail
      refine (ref3_free R _ qs ok _ hh hR hQ hs).mono ?_
      rintro e w2 ⟨rfl, k2⟩
      rw [hf]
      have hb3 := k2.blk hb1 (fun x => x)
      have hb4 := k2.blk hb2 (fun x => x)
      have cc0 : w2.cell? ⟨w.heap.size, 0, none⟩ = some _ := (blkcell hb3 0).trans rfl
      have cc1 : w2.cell? ⟨w.heap.size, 1, none⟩ = some _ := (blkcell hb3 1).trans rfl
      have cd0 : w2.cell? ⟨w.heap.size + 1, 0, none⟩ = some _ := (blkcell hb4 0).trans rfl
      have cd1 : w2.cell? ⟨w.heap.size + 1, 1, none⟩ = some _ := (blkcell hb4 1).trans rfl
      have fd0 := blkfrozen hb4 0
      have fd1 := blkfrozen hb4 1
      have kk := (hk0.trans' k1).trans' k2
      go_wp2
      have k3 := (kk.setCell (p := ⟨w.heap.size + 1, 0, none⟩) (.inr (by simp)) (.int .i64 R)).setCell (p := ⟨w.heap.size + 1, 1, none⟩) (.inr (by simp)) (.slice A qs.length c)
      exact bodyPost_ret (v := .tuple #[.agg #[.int .i64 R, .slice A qs.length c], .int .i64 10]) (by simp [results, Try.results39, go_sem, cd0, cd1]) rfl ⟨_, rfl, (h.still k3).mono (fun _ h _ => .inl h), k3⟩
    · obtain ⟨k, rfl, hk⟩ := isQ_yes hq
      rw [pushQe, pushQs, if_pos hq, if_neg hf, if_pos ⟨hq, hf⟩, Int.toNat_natCast, qAt_nat]
      obtain ⟨b, o, Aq, cq, rfl, hb, hc, hr⟩ := h.at_ k hk
      have hlk : (qs.getD k []).length ≤ 1024 := by
        have := sumQ_le_of (fun k => (qs.getD k []).length) qs.length (k + 1) (by omega)
        simp only [sumQ] at this; omega
      generalize hlkq : qs.getD k [] = lk at hc hr hlk ⊢
      have HLK := Lib.hid hlkq
      clear hlkq
      have HR := Lib.hid hr
      clear hr
      have hne : ¬ (freeQ R qs == 0) = true := by simpa using hf
      have hne' : (freeQ R qs == 0) = false := by simpa using hf
      go_enter Try.func39, Try.ntmps39
      go_wp2_with fail
      refine (ref3_is _ _ _ _ _ _).mono ?_
      rintro e w1 ⟨rfl, k1⟩
      rw [isQ_dec, hq]
      have hb1 := k1.blk hblk1 (fun x => x)
      have hb2 := k1.blk hblk2 (fun x => x)
      have cb0 : w1.cell? ⟨w.heap.size, 0, none⟩ = some _ := (blkcell hb1 0).trans rfl
      have cb1 : w1.cell? ⟨w.heap.size, 1, none⟩ = some _ := (blkcell hb1 1).trans rfl
      have hh := (h.still hk0).still k1
      go_wp2_with fail
      refine (ref3_free R _ qs ok _ hh hR hQ hs).mono ?_
      rintro e w2 ⟨rfl, k2⟩
      have hb3 := k2.blk hb1 (fun x => x)
      have hb4 := k2.blk hb2 (fun x => x)
      have kk := (hk0.trans' k1).trans' k2
      have hcx := (kk.cell (p := ⟨b, o + k, none⟩) hb (fun x => x)).trans hc
      have c0 : w2.cell? ⟨w.heap.size, 0, none⟩ = some _ := (blkcell hb3 0).trans rfl
      have c1 : w2.cell? ⟨w.heap.size, 1, none⟩ = some _ := (blkcell hb3 1).trans rfl
      have hbd : w.heap.size + 2 ≤ w2.heap.size := hW_lt hb4
      have hS : ∀ W, Keeps (fun _ => False) w2 W → W.cell? ⟨w.heap.size, 0, none⟩ = some (.int .i64 R) ∧ W.cell? ⟨w.heap.size, 1, none⟩ = some (.slice (some ⟨b, o, none⟩) qs.length c) ∧ W.cell? ⟨b, o + k, none⟩ = some (.slice Aq lk.length cq) ∧ W.frozen? ⟨w.heap.size + 1, 0, none⟩ = false ∧ W.frozen? ⟨w.heap.size + 1, 1, none⟩ = false ∧ W.cell? ⟨w.heap.size + 1, 0, none⟩ = some (cellOr W ⟨w.heap.size + 1, 0, none⟩) ∧ W.cell? ⟨w.heap.size + 1, 1, none⟩ = some (cellOr W ⟨w.heap.size + 1, 1, none⟩) := fun W hW =>
        ⟨(blkcell (hW.blk hb3 (fun x => x)) 0).trans rfl, (blkcell (hW.blk hb3 (fun x => x)) 1).trans rfl, (hW.cell (p := ⟨b, o + k, none⟩) (cell_below hcx) (fun x => x)).trans hcx, blkfrozen (hW.blk hb4 (fun x => x)) 0, blkfrozen (hW.blk hb4 (fun x => x)) 1, cellOr_of ((blkcell (hW.blk hb4 (fun x => x)) 0).trans rfl), cellOr_of ((blkcell (hW.blk hb4 (fun x => x)) 1).trans rfl)⟩
      have hS' : ∀ W0 u0 u1, Keeps (fun _ => False) w2 W0 → (fun W => W.cell? ⟨w.heap.size, 0, none⟩ = some (.int .i64 R) ∧ W.cell? ⟨w.heap.size, 1, none⟩ = some (.slice (some ⟨b, o, none⟩) qs.length c) ∧ W.cell? ⟨b, o + k, none⟩ = some (.slice Aq lk.length cq) ∧ W.frozen? ⟨w.heap.size + 1, 0, none⟩ = false ∧ W.frozen? ⟨w.heap.size + 1, 1, none⟩ = false ∧ W.cell? ⟨w.heap.size + 1, 0, none⟩ = some (cellOr W ⟨w.heap.size + 1, 0, none⟩) ∧ W.cell? ⟨w.heap.size + 1, 1, none⟩ = some (cellOr W ⟨w.heap.size + 1, 1, none⟩)) ((W0.setCell ⟨w.heap.size + 1, 0, none⟩ u0).setCell ⟨w.heap.size + 1, 1, none⟩ u1) := fun W0 u0 u1 hW =>
        have k7 : Keeps (fun j => j = w.heap.size + 1) W0 ((W0.setCell ⟨w.heap.size + 1, 0, none⟩ u0).setCell ⟨w.heap.size + 1, 1, none⟩ u1) := ((Keeps.refl (fun j => j = w.heap.size + 1) W0).setCell (p := ⟨w.heap.size + 1, 0, none⟩) (.inl rfl) _).setCell (p := ⟨w.heap.size + 1, 1, none⟩) (.inl rfl) _
        have hcl := cell_below hcx
        ⟨(blkcell (k7.blk (hW.blk hb3 (fun x => x)) (by omega)) 0).trans rfl, (blkcell (k7.blk (hW.blk hb3 (fun x => x)) (by omega)) 1).trans rfl, (k7.cell (p := ⟨b, o + k, none⟩) (Nat.lt_of_lt_of_le hcl hW.size) (by show ¬ b = _; omega)).trans ((hW.cell (p := ⟨b, o + k, none⟩) hcl (fun x => x)).trans hcx), by simp only [World.frozen?_setCell]; exact blkfrozen (hW.blk hb4 (fun x => x)) 0, by simp only [World.frozen?_setCell]; exact blkfrozen (hW.blk hb4 (fun x => x)) 1, cellOr_set (cellOr_set ((blkcell (hW.blk hb4 (fun x => x)) 0).trans rfl)), cellOr_set (cellOr_set ((blkcell (hW.blk hb4 (fun x => x)) 1).trans rfl))⟩
      clear hc cb0 cb1 c0 c1
      have HB4 := Lib.hid hb4
      clear hb4 hcx
      go_wp2_with fail
      go_region_held3 (fun W => W.cell? ⟨w.heap.size, 0, none⟩ = some (.int .i64 R) ∧ W.cell? ⟨w.heap.size, 1, none⟩ = some (.slice (some ⟨b, o, none⟩) qs.length c) ∧ W.cell? ⟨b, o + k, none⟩ = some (.slice Aq lk.length cq) ∧ W.frozen? ⟨w.heap.size + 1, 0, none⟩ = false ∧ W.frozen? ⟨w.heap.size + 1, 1, none⟩ = false ∧ W.cell? ⟨w.heap.size + 1, 0, none⟩ = some (cellOr W ⟨w.heap.size + 1, 0, none⟩) ∧ W.cell? ⟨w.heap.size + 1, 1, none⟩ = some (cellOr W ⟨w.heap.size + 1, 1, none⟩)) (first | exact hS' _ _ _ (by repeat (first | (with_reducible assumption) | exact Keeps.refl _ _ | apply Keeps.alloc | apply Keeps.drew)) | exact hS _ (by repeat (first | (with_reducible assumption) | exact Keeps.refl _ _ | apply Keeps.alloc | apply Keeps.drew)))
        (first | (refine step_append_rds _ rfl _ _ 28 rfl w2.heap.size 3 (.int .i64 0) 1 8 Try.underlying28 Try.info3 rfl (by decide) (.slice none 0 0) 0 [] rfl (World.ownsRow_nil _ _ _ _) _ _ _ _ rfl (HR.out.keeps (kk.trans' (by repeat (first | (with_reducible assumption) | exact Keeps.refl _ _ | apply Keeps.alloc | apply Keeps.drew))) (fun _ _ _ x => x)) (ints_one' _ _) (by unfold maxLen; omega) (by omega) (by simp) ?_; intro A1 p1 w3 hown3 hgrow3 hat3; replace hown3 : w3.ownsRow w2.heap.size 3 1 (.slice A1 lk.length p1) lk.length (ints lk) := (by simpa using hown3); have k3 : Keeps (fun _ => False) w2 w3 := Keeps.grown (by repeat (first | (with_reducible assumption) | exact Keeps.refl _ _ | apply Keeps.alloc | apply Keeps.drew)) hgrow3 (fun k hk => by simp [Value.ownBlock] at hk); (try simp only [Nat.zero_add]))
               | (refine step_append_rds _ rfl _ _ 28 rfl w2.heap.size 3 (.int .i64 0) 1 8 Try.underlying28 Try.info3 rfl (by decide) (.slice A1 lk.length p1) lk.length (ints lk) rfl (by first | exact hown3 | exact hown3.alloc _) (.slice _ 1 1) (fun _ => True) 1 [.int .i64 x] rfl (by first | exact rds_one' _ _ _ | exact (rds_one' w2.drew _ _).keeps (S := fun _ => False) ((Keeps.refl _ _).grown hgrow3 (fun k hk => by simp [Value.ownBlock] at hk)) (fun _ _ _ x => x)) (one_one _ rfl) (by unfold maxLen; omega) (by omega) (by have := k3.size; (try rw [World.size_alloc]); omega) ?_; intro A2 p2 w4 hown4 hgrow4 hat4; have k4 : Keeps (fun _ => False) w2 w4 := Keeps.grown (by repeat (first | (with_reducible assumption) | exact Keeps.refl _ _ | apply Keeps.alloc | apply Keeps.drew)) hgrow4 (fun k hk hlt => by have := (hown3.lt k hk).1; omega); replace hown4 : w4.ownsRow w2.heap.size 3 1 (.slice A2 (lk.length + 1) p2) (lk ++ [x]).length (ints (lk ++ [x])) := (by simpa [ints] using hown4))
               | (go_at_call 65; refine (ref3_put _ k _ (lk ++ [x]) _ qs (fun b => (ok b ∧ b < w.heap.size) ∨ w2.heap.size ≤ b) _ ((h.mono (ok' := fun b => (ok b ∧ b < w.heap.size) ∨ w2.heap.size ≤ b) (fun _ h hlt => .inl ⟨h, hlt⟩)).still (kk.trans' k4)) ((Rds.own hown4).mono (ok' := fun b => (ok b ∧ b < w.heap.size) ∨ w2.heap.size ≤ b) (fun _ h _ => .inr h)) hk hQ).mono ?_; rintro e w5 ⟨v5, rfl, h5, k5'⟩; have k5 := k4.trans' k5'; clear k5'; obtain ⟨A5, c5, rfl⟩ := h5.slice_; rw [List.length_set] at h5))
      all_goals (
        have hb5 := k5.blk HB4.out (fun x => x)
        have r5 := kk.trans' k5
        have cc0 : w5.cell? ⟨w.heap.size + 1, 0, none⟩ = some _ := (blkcell hb5 0).trans rfl
        have cc1 : w5.cell? ⟨w.heap.size + 1, 1, none⟩ = some _ := (blkcell hb5 1).trans rfl
        have fd0 := blkfrozen hb5 0
        have fd1 := blkfrozen hb5 1
        go_wp2
        have k6 : Keeps (fun _ => False) w ((w5.setCell ⟨w.heap.size + 1, 0, none⟩ (.int .i64 R)).setCell ⟨w.heap.size + 1, 1, none⟩ (.slice A5 qs.length c5)) := (r5.setCell (.inr (by simp)) _).setCell (.inr (by simp)) _
        have k7 : Keeps (fun j => j = w.heap.size + 1) w5 ((w5.setCell ⟨w.heap.size + 1, 0, none⟩ (.int .i64 R)).setCell ⟨w.heap.size + 1, 1, none⟩ (.slice A5 qs.length c5)) := ((Keeps.refl (fun j => j = w.heap.size + 1) w5).setCell (p := ⟨w.heap.size + 1, 0, none⟩) (.inl rfl) _).setCell (p := ⟨w.heap.size + 1, 1, none⟩) (.inl rfl) _
        exact bodyPost_ret (v := .tuple #[.agg #[.int .i64 R, .slice A5 qs.length c5], .int .i64 0]) (by simp [results, Try.results39, go_sem, cc0, cc1]) rfl ⟨_, rfl, (h5.keeps k7 (fun j hj hlt => by have := k4.size; have := hbd; rcases hj with (⟨_, hj⟩ | hj) | hj <;> omega)).mono (fun b hb _ => by have := k4.size; rcases hb with (⟨hb, _⟩ | hb) | hb; exact .inl hb; exact .inr (by omega); exact .inr (by omega)), k6⟩)
  · rw [pushQe, pushQs, if_neg hq, if_neg (fun h => hq h.1)]
    go_enter Try.func39, Try.ntmps39
    go_wp2_with fail
    refine (ref3_is _ _ _ _ _ _).mono ?_
    rintro e w1 ⟨rfl, k1⟩
    rw [isQ_dec, Bool.eq_false_iff.2 hq]
    have hb1 := k1.blk hblk1 (fun x => x)
    have hb2 := k1.blk hblk2 (fun x => x)
    have cc0 : w1.cell? ⟨w.heap.size, 0, none⟩ = some _ := (blkcell hb1 0).trans rfl
    have cc1 : w1.cell? ⟨w.heap.size, 1, none⟩ = some _ := (blkcell hb1 1).trans rfl
    have cd0 : w1.cell? ⟨w.heap.size + 1, 0, none⟩ = some _ := (blkcell hb2 0).trans rfl
    have cd1 : w1.cell? ⟨w.heap.size + 1, 1, none⟩ = some _ := (blkcell hb2 1).trans rfl
    have fd0 := blkfrozen hb2 0
    have fd1 := blkfrozen hb2 1
    have kk := hk0.trans' k1
    go_wp2
    have k3 := (kk.setCell (p := ⟨w.heap.size + 1, 0, none⟩) (.inr (by simp)) (.int .i64 R)).setCell (p := ⟨w.heap.size + 1, 1, none⟩) (.inr (by simp)) (.slice A qs.length c)
    exact bodyPost_ret (v := .tuple #[.agg #[.int .i64 R, .slice A qs.length c], .int .i64 8]) (by simp [results, Try.results39, go_sem, cd0, cd1]) rfl ⟨_, rfl, (h.still k3).mono (fun _ h _ => .inl h), k3⟩
end Go.Proofs.Ytlfccifibhcacaa
