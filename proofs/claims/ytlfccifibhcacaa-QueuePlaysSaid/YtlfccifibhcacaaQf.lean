/- The document's pool of queues (becket/becketref03), by its contracts over lists of lists. -/
import Derived.Test.YtlfccifibhcacaaQh
import Derived.Test.YtlfccifibhcacaaRf
import Derived.Test.YtlfccifibhcacaaKs
import Derived.Deep.RegionHeld3
import Derived.Deep.LoopGhost
import Derived.Deep.OwnRows
namespace Go.Proofs.Ytlfccifibhcacaa
open Go.RowKit
set_option linter.unusedVariables false
set_option linter.unusedSimpArgs false

theorem Try.info28 : (Try.prog.info? 28).map (fun i => (i.zero, i.size, i.bytes)) = some (some (.slice none 0 0), 1, 24) := by kernel_rfl

/-- A slice of slices of ints, that reads as these lists. -/
def RL (ok : Nat → Prop) (w : World) (v : Value) (qs : List (List Int)) : Prop :=
  ∃ vs : List Value, Rds ok w v 1 qs.length vs ∧ ∀ q, q < qs.length → Rds ok w (vs.getD q undef) 1 (qs.getD q []).length (ints (qs.getD q []))

theorem RL.keeps {ok : Nat → Prop} {w w' : World} {v : Value} {qs : List (List Int)} {S : Nat → Prop} (h : RL ok w v qs) (hk : Keeps S w w') (hS : ∀ k, ok k → k < w.heap.size → ¬ S k) : RL ok w' v qs := by
  obtain ⟨vs, h1, h2⟩ := h
  exact ⟨vs, h1.keeps hk hS, fun q hq => (h2 q hq).keeps hk hS⟩
theorem RL.still {ok : Nat → Prop} {w w' : World} {v : Value} {qs : List (List Int)} (h : RL ok w v qs) (hk : Keeps (fun _ => False) w w') : RL ok w' v qs := h.keeps hk (fun _ _ _ x => x)
theorem RL.mono {ok ok' : Nat → Prop} {w : World} {v : Value} {qs : List (List Int)} (h : RL ok w v qs) (hk : ∀ k, ok k → k < w.heap.size → ok' k) : RL ok' w v qs := by
  obtain ⟨vs, h1, h2⟩ := h
  exact ⟨vs, h1.mono hk, fun q hq => (h2 q hq).mono hk⟩
theorem RL.slice_ {ok : Nat → Prop} {w : World} {v : Value} {qs : List (List Int)} (h : RL ok w v qs) : ∃ A c, v = .slice A qs.length c := by
  obtain ⟨vs, h1, _⟩ := h; exact h1.slice_

/-- The list at a place, in memory. -/
theorem RL.at_ {ok : Nat → Prop} {w : World} {A : Option Addr} {c : Nat} {qs : List (List Int)} (h : RL ok w (.slice A qs.length c) qs) (q : Nat) (hq : q < qs.length) :
    ∃ b o Aq cq, A = some ⟨b, o, none⟩ ∧ b < w.heap.size ∧ w.cell? ⟨b, o + q, none⟩ = some (.slice Aq (qs.getD q []).length cq) ∧ Rds ok w (.slice Aq (qs.getD q []).length cq) 1 (qs.getD q []).length (ints (qs.getD q [])) := by
  obtain ⟨vs, ⟨hl, A', c', hv, hc, hA⟩, h2⟩ := h
  injection hv with hv1 hv2 hv3
  subst hv1
  obtain ⟨b, o, hA, hok, hlt, hcell⟩ := hA.resolve_left (by omega)
  have h3 := h2 q hq
  obtain ⟨Aq, cq, he⟩ := h3.slice_
  refine ⟨b, o, Aq, cq, hA, hlt, ?_, he ▸ h3⟩
  rw [← he]
  have hlt2 : q < vs.length := by rw [hl]; omega
  exact hcell q _ (by simp [List.getD, hlt2])

theorem ref3_is (n q : Int) (A : Option Addr) (Q c : Nat) (w : World) :
    Calls Try.prog 64 #[.agg #[.int .i64 n, .slice A Q c], .int .i64 q] w fun e w' => e = .returned (.bool (decide (0 ≤ q ∧ q < (Q : Int)))) ∧ Keeps (fun _ => False) w w' := by
  by_cases h0 : 0 ≤ q
  · by_cases h1 : q < (Q : Int)
    · rw [decide_eq_true ⟨h0, h1⟩]
      go_enter Try.func64, Try.ntmps64
      go_wp2
      go_ret
      exact ⟨by simp [h1], (Keeps.refl _ _).alloc _⟩
    · rw [decide_eq_false (fun h => h1 h.2)]
      go_enter Try.func64, Try.ntmps64
      go_wp2
      go_ret
      exact ⟨by simp [h1], (Keeps.refl _ _).alloc _⟩
  · rw [decide_eq_false (fun h => h0 h.1)]
    go_enter Try.func64, Try.ntmps64
    go_wp2
    go_ret
    exact ⟨rfl, (Keeps.refl _ _).alloc _⟩

/-- A row that is owned, with one element written. -/
theorem own_put {w : World} {B e n g c q : Nat} {xs : List Value} (h : w.ownsRow B e 1 (.slice (some ⟨g, 0, none⟩) n c) n xs) (u : Value) (hq : q < n) :
    w.heap[g]? = none ∨ (B ≤ g ∧ (∃ cs, w.heap[g]? = some (.cells cs e (0, 0))) ∧ (w.cell? ⟨g, q, none⟩).isSome = true ∧ Rds (fun b => B ≤ b) (w.setCell ⟨g, q, none⟩ u) (.slice (some ⟨g, 0, none⟩) n c) 1 n (xs.set q u)) := by
  have hcells := fun g hg => h.cells (g := g) hg
  obtain ⟨hl, hh⟩ := h
  rcases hh with ⟨hv, _⟩ | ⟨g', cap, cur, hv, hB, hheap, hn, hm, hsz, htake⟩
  · cases hv
  · injection hv with hv1 hv2 hv3
    injection hv1 with hv1
    injection hv1 with hg
    subst hg; subst hv3
    refine .inr ⟨hB, ⟨_, hheap⟩, ?_, by simpa using hl, _, c, rfl, hn, .inr ⟨g, 0, rfl, hB, ?_, fun j v hv => ?_⟩⟩
    · rw [blkcell hheap]; simp; omega
    · have := blklt hheap; simpa [World.setCell] using this
    · rw [Nat.zero_add]
      rw [List.getElem?_set] at hv
      by_cases e : q = j
      · subst e
        rw [if_pos rfl] at hv
        split at hv
        · injection hv with hv; subst hv
          exact World.cell?_setCell_same' _ _ _ (by rw [blkcell hheap]; simp; omega)
        · cases hv
      · rw [if_neg e] at hv
        have := hcells g rfl j v hv
        rw [add_plain'] at this
        exact cset_ne this (ad_ne (.inr e))

set_option maxHeartbeats 1000000 in
set_option maxRecDepth 100000 in
theorem ref3_put (n : Int) (q : Nat) (v : Value) (l : List Int) (lv : Value) (qs : List (List Int)) (ok : Nat → Prop) (w : World) (h : RL ok w v qs) (hl : Rds ok w lv 1 l.length (ints l)) (hq : q < qs.length) (hsmall : qs.length ≤ 64) :
    Calls Try.prog 65 #[.agg #[.int .i64 n, v], .int .i64 q, lv] w fun e w' => ∃ v', e = .returned (.agg #[.int .i64 n, v']) ∧ RL (fun b => ok b ∨ w.heap.size ≤ b) w' v' (qs.set q l) ∧ Keeps (fun _ => False) w w' := by
  obtain ⟨A, c, rfl⟩ := h.slice_
  obtain ⟨Al, cl, rfl⟩ := hl.slice_
  obtain ⟨vs, h1, h2⟩ := h
  have hone : ∀ u ∈ vs, u.oneCell' = true := by
    intro u hu
    obtain ⟨j, hj, rfl⟩ := List.getElem_of_mem hu
    have hlen : vs.length = qs.length := by simpa using h1.1
    obtain ⟨_, _, e⟩ := (h2 j (by omega)).slice_
    simp only [List.getD, List.getElem?_eq_getElem hj, Option.getD_some] at e
    rw [e]; rfl
  have HP := Lib.hid h1
  have H2 := Lib.hid h2
  have HL := Lib.hid hl
  clear h1 h2 hl
  have HO := Lib.hid hone
  clear hone
  go_enter Try.func65, Try.ntmps65
  go_wp2_with (at_builtin; refine wpList_append_rds _ rfl _ _ 70 rfl (w.heap.size + 2) 28 (.slice none 0 0) 1 24 Try.underlying70 Try.info28 rfl (by decide) (.slice none 0 0) 0 [] rfl (World.ownsRow_nil _ _ _ _) _ _ _ _ rfl (HP.out.keeps (((Keeps.refl (fun _ => False) _).alloc _).alloc _) (fun _ _ _ h => h)) ?c1 ?c2 ?c3 ?c4 ?_)
  case c1 => exact HO.out
  case c2 => unfold maxLen; omega
  case c3 => omega
  case c4 => simp
  intro A1 p1 w1 hown1 hgrow1 hat1
  have hk1 : Keeps (fun _ => False) w w1 := (((Keeps.refl _ w).alloc _).alloc _).grown hgrow1 (fun k hk => by simp [Value.ownBlock] at hk)
  have hz := hgrow1.size
  simp only [World.size_alloc] at hz
  have hb0 := grown_blk hgrow1 (g := w.heap.size) (blkalloc (heap_alloc_new w _) _) (by simp [Value.ownBlock])
  have hb1 := grown_blk hgrow1 (g := w.heap.size + 1) (by simpa using heap_alloc_new (w.alloc _) _) (by simp [Value.ownBlock])
  obtain ⟨g, rfl⟩ : ∃ g, A1 = some ⟨g, 0, none⟩ := by
    rcases hown1.2 with ⟨_, h0⟩ | ⟨g, cap, _, hv, _⟩
    · omega
    · injection hv with hv; exact ⟨g, hv⟩
  rcases own_put (q := q) hown1 (.slice Al l.length cl) hq with hnone | ⟨hgB, ⟨gcs, hgb⟩, hsome, hput⟩
  · exfalso
    rcases hown1.2 with ⟨hv, _⟩ | ⟨g', cap, cur, hv, hB, hheap, _⟩
    · cases hv
    · injection hv with hv1; injection hv1 with hv1; injection hv1 with hg; subst hg; rw [hnone] at hheap; cases hheap
  have k00 : w1.cell? ⟨w.heap.size, 0, none⟩ = some _ := (blkcell hb0 0).trans rfl
  have k01 : w1.cell? ⟨w.heap.size, 1, none⟩ = some _ := (blkcell hb0 1).trans rfl
  have k10 : w1.cell? ⟨w.heap.size + 1, 0, none⟩ = some _ := (blkcell hb1 0).trans rfl
  have k11 : w1.cell? ⟨w.heap.size + 1, 1, none⟩ = some _ := (blkcell hb1 1).trans rfl
  have f01 := blkfrozen hb0 1
  have f10 := blkfrozen hb1 0
  have f11 := blkfrozen hb1 1
  have fg := blkfrozen hgb q
  obtain ⟨old, hold⟩ := Option.isSome_iff_exists.1 hsome
  have hg0 : g ≠ w.heap.size := by omega
  have hg1 : g ≠ w.heap.size + 1 := by omega
  clear hb0 hb1
  go_wp2
  refine bodyPost_ret (v := .agg #[.int .i64 n, .slice (some ⟨g, 0, none⟩) qs.length p1]) (by simp [results, Try.results65, go_sem, k10, k11]) rfl ⟨_, rfl, ?_, ?_⟩
  · have hown2 := ownsRow_setCell_below hown1 (a := ⟨w.heap.size, 1, none⟩) (by show w.heap.size < w.heap.size + 2; omega) (.slice (some ⟨g, 0, none⟩) qs.length p1)
    rcases own_put (q := q) hown2 (.slice Al l.length cl) hq with hnone | ⟨_, _, _, hput2⟩
    · exact absurd (blkfar hgb (p := ⟨w.heap.size, 1, none⟩) hg0 (.slice (some ⟨g, 0, none⟩) qs.length p1)) (by rw [hnone]; simp)
    · have hk2 : Keeps (fun k => k = w.heap.size ∨ k = w.heap.size + 1) ((w1.setCell ⟨w.heap.size, 1, none⟩ (.slice (some ⟨g, 0, none⟩) qs.length p1)).setCell ⟨g, q, none⟩ (.slice Al l.length cl)) ((((w1.setCell ⟨w.heap.size, 1, none⟩ (.slice (some ⟨g, 0, none⟩) qs.length p1)).setCell ⟨g, q, none⟩ (.slice Al l.length cl)).setCell ⟨w.heap.size + 1, 0, none⟩ (.int .i64 n)).setCell ⟨w.heap.size + 1, 1, none⟩ (.slice (some ⟨g, 0, none⟩) qs.length p1)) :=
        ((Keeps.refl _ _).setCell (.inl (.inr rfl)) _).setCell (.inl (.inr rfl)) _
      have hkk : Keeps (fun _ => False) w ((((w1.setCell ⟨w.heap.size, 1, none⟩ (.slice (some ⟨g, 0, none⟩) qs.length p1)).setCell ⟨g, q, none⟩ (.slice Al l.length cl)).setCell ⟨w.heap.size + 1, 0, none⟩ (.int .i64 n)).setCell ⟨w.heap.size + 1, 1, none⟩ (.slice (some ⟨g, 0, none⟩) qs.length p1)) :=
        (((hk1.setCell (.inr (Nat.le_refl _)) _).setCell (.inr (by show w.heap.size ≤ g; omega)) _).setCell (.inr (by show w.heap.size ≤ w.heap.size + 1; omega)) _).setCell (.inr (by show w.heap.size ≤ w.heap.size + 1; omega)) _
      have hvl : vs.length = qs.length := by simpa using HP.out.1
      refine ⟨vs.set q (.slice Al l.length cl), ?_, fun k hk => ?_⟩
      · rw [List.length_set]
        exact (hput2.keeps hk2 (fun k hk _ => by omega)).mono (fun k hk _ => .inr (by omega))
      · rw [List.length_set] at hk
        rw [getD_set _ _ _ _ hq]
        by_cases e : k = q
        · subst e
          rw [if_pos rfl, show (vs.set k (Value.slice Al l.length cl)).getD k undef = .slice Al l.length cl by simp [List.getD, show k < vs.length by omega]]
          exact (HL.out.keeps hkk (fun _ _ _ x => x)).mono (fun _ h _ => .inl h)
        · rw [if_neg e, show (vs.set q (Value.slice Al l.length cl)).getD k undef = vs.getD k undef by simp [List.getD, List.getElem?_set, show q ≠ k from fun x => e x.symm]]
          exact ((H2.out k hk).keeps hkk (fun _ _ _ x => x)).mono (fun _ h _ => .inl h)
  · exact (((hk1.setCell (.inr (Nat.le_refl _)) _).setCell (.inr (by show w.heap.size ≤ g; omega)) _).setCell (.inr (by show w.heap.size ≤ w.heap.size + 1; omega)) _).setCell (.inr (by show w.heap.size ≤ w.heap.size + 1; omega)) _

/-! ### New, First, Free, List -/

theorem ref3_new_bad (q r : Int) (w : World) (h : q < 1 ∨ 64 < q ∨ r < 0 ∨ 1024 < r) :
    Calls Try.prog 33 #[.int .i64 q, .int .i64 r] w fun e w' => e = .returned (.tuple #[.agg #[.int .i64 0, .slice none 0 0], .int .i64 1]) ∧ Keeps (fun _ => False) w w' := by
  have fin : ∀ W : World, Keeps (fun _ => False) w w → True := fun _ _ => trivial
  by_cases h1 : q < 1
  · go_enter Try.func33, Try.ntmps33
    go_wp2
    exact bodyPost_ret (v := .tuple #[.agg #[.int .i64 0, .slice none 0 0], .int .i64 1]) (by simp [results, Try.results33, go_sem]) rfl ⟨rfl, (Keeps.refl _ _).alloc _⟩
  · by_cases h2 : 64 < q
    · go_enter Try.func33, Try.ntmps33
      go_wp2
      exact bodyPost_ret (v := .tuple #[.agg #[.int .i64 0, .slice none 0 0], .int .i64 1]) (by simp [results, Try.results33, go_sem]) rfl ⟨rfl, (Keeps.refl _ _).alloc _⟩
    · by_cases h3 : r < 0
      · go_enter Try.func33, Try.ntmps33
        go_wp2
        exact bodyPost_ret (v := .tuple #[.agg #[.int .i64 0, .slice none 0 0], .int .i64 1]) (by simp [results, Try.results33, go_sem]) rfl ⟨rfl, (Keeps.refl _ _).alloc _⟩
      · go_enter Try.func33, Try.ntmps33
        go_wp2
        exact bodyPost_ret (v := .tuple #[.agg #[.int .i64 0, .slice none 0 0], .int .i64 1]) (by simp [results, Try.results33, go_sem]) rfl ⟨rfl, (Keeps.refl _ _).alloc _⟩

set_option maxHeartbeats 1000000 in
set_option maxRecDepth 100000 in
theorem ref3_new (Q R : Nat) (w : World) (h1 : 1 ≤ Q) (h2 : Q ≤ 64) (h3 : R ≤ 1024) :
    Calls Try.prog 33 #[.int .i64 Q, .int .i64 R] w fun e w' => ∃ v, e = .returned (.tuple #[.agg #[.int .i64 R, v], .int .i64 0]) ∧ RL (fun b => w.heap.size ≤ b) w' v (List.replicate Q []) ∧ Keeps (fun _ => False) w w' := by
  have a1 : ¬ ((Q : Int) < 1) := by omega
  have a2 : ¬ (64 < (Q : Int)) := by omega
  have a3 : ¬ ((R : Int) < 0) := by omega
  have a4 : ¬ (1024 < (R : Int)) := by omega
  have hmk := run_make_row' (P := Try.prog) 70 28 (.slice none 0 0) 24 Try.underlying70 Try.info28 rfl .i64 .i64 Q (by omega) (by omega)
  go_enter Try.func33, Try.ntmps33
  go_wp2
  refine bodyPost_ret (v := .tuple #[.agg #[.int .i64 R, .slice (some ⟨w.heap.size + 1, 0, none⟩) Q Q], .int .i64 0]) (by simp [results, Try.results33, go_sem]) rfl ⟨_, rfl, ⟨List.replicate Q (.slice none 0 0), ⟨by simp, some ⟨w.heap.size + 1, 0, none⟩, Q, by simp, by simp, .inr ⟨w.heap.size + 1, 0, rfl, by simp, by simp, fun j u hu => ?_⟩⟩, fun q hq => ?_⟩, ((Keeps.refl _ _).alloc _).alloc _⟩
  · have hb := heap_alloc_new (w.alloc (.cells #[.int .i64 R, .slice (some ⟨w.heap.size + 1, 0, none⟩) Q Q] 72)) (.cells (madeCells #[.slice none 0 0] Q) 28)
    rw [World.size_alloc] at hb
    rw [Nat.zero_add, blkcell hb, madeCells, Array.getElem?_map, Array.getElem?_range]
    obtain ⟨hj, e⟩ := List.getElem?_eq_some_iff.1 hu
    simp only [List.length_replicate] at hj
    simp only [List.getElem_replicate] at e
    subst e
    simp [hj, Nat.mod_one]
  · simp only [List.length_replicate] at hq
    have e1 : (List.replicate Q (Value.slice none 0 0)).getD q undef = .slice none 0 0 := by simp [List.getD, hq]
    have e2 : (List.replicate Q ([] : List Int)).getD q [] = [] := by simp [List.getD, hq]
    rw [e1, e2]
    exact Rds.nil_ _ _ _ _ _

theorem isQ_dec (qs : List (List Int)) (q : Int) : decide (0 ≤ q ∧ q < (qs.length : Int)) = isQ qs q := rfl

set_option maxHeartbeats 1000000 in
set_option maxRecDepth 100000 in
theorem ref3_list (n q : Int) (v : Value) (qs : List (List Int)) (ok : Nat → Prop) (w : World) (h : RL ok w v qs) :
    Calls Try.prog 68 #[.agg #[.int .i64 n, v], .int .i64 q] w fun e w' => ∃ v', e = .returned v' ∧ Rds ok w' v' 1 (listQ qs q).length (ints (listQ qs q)) ∧ Keeps (fun _ => False) w w' := by
  obtain ⟨A, c, rfl⟩ := h.slice_
  by_cases hq : isQ qs q = true
  · obtain ⟨k, rfl, hk⟩ := isQ_yes hq
    rw [listQ, if_pos hq, qAt_nat]
    obtain ⟨b, o, Aq, cq, rfl, hb, hc, hr⟩ := h.at_ k hk
    generalize qs.getD k [] = lk at hc hr ⊢
    have HR := Lib.hid hr
    clear hr h
    go_enter Try.func68, Try.ntmps68
    go_wp2_with fail
    refine (ref3_is _ _ _ _ _ _).mono ?_
    rintro e w1 ⟨rfl, k1⟩
    rw [isQ_dec, hq]
    have hk1 := ((Keeps.refl (fun _ => False) w).alloc (.cells #[.int .i64 n, .slice (some ⟨b, o, none⟩) qs.length c] 72)).trans' k1
    have cb : w1.cell? ⟨w.heap.size, 1, none⟩ = some _ := (blkcell (k1.blk (heap_alloc_new w _) (fun x => x)) 1).trans rfl
    have cc := (hk1.cell (p := ⟨b, o + k, none⟩) hb (fun x => x)).trans hc
    go_wp2
    go_ret
    exact ⟨_, rfl, HR.out.keeps hk1 (fun _ _ _ x => x), hk1⟩
  · rw [listQ, if_neg hq]
    go_enter Try.func68, Try.ntmps68
    go_wp2_with fail
    refine (ref3_is _ _ _ _ _ _).mono ?_
    rintro e w1 ⟨rfl, k1⟩
    rw [isQ_dec, Bool.eq_false_iff.2 hq]
    go_wp2
    go_ret
    exact ⟨_, rfl, Rds.nil_ _ _ _ _ _, ((Keeps.refl (fun _ => False) w).alloc _).trans' k1⟩

set_option maxHeartbeats 1000000 in
set_option maxRecDepth 100000 in
theorem ref3_first (n q : Int) (v : Value) (qs : List (List Int)) (ok : Nat → Prop) (w : World) (h : RL ok w v qs) :
    Calls Try.prog 66 #[.agg #[.int .i64 n, v], .int .i64 q] w fun e w' => e = .returned (.tuple #[.int .i64 (popQx qs q), .int .i64 (popQe qs q)]) ∧ Keeps (fun _ => False) w w' := by
  obtain ⟨A, c, rfl⟩ := h.slice_
  by_cases hq : isQ qs q = true
  · obtain ⟨k, rfl, hk⟩ := isQ_yes hq
    rw [popQx, popQe, if_pos hq, if_pos hq, qAt_nat]
    obtain ⟨b, o, Aq, cq, rfl, hb, hc, hr⟩ := h.at_ k hk
    cases hl : qs.getD k [] with
    | nil =>
      rw [hl] at hc
      clear hr h
      go_enter Try.func66, Try.ntmps66
      go_wp2_with fail
      refine (ref3_is _ _ _ _ _ _).mono ?_
      rintro e w1 ⟨rfl, k1⟩
      rw [isQ_dec, hq]
      have hk1 := ((Keeps.refl (fun _ => False) w).alloc (.cells #[.int .i64 n, .slice (some ⟨b, o, none⟩) qs.length c] 72)).trans' k1
      have cb : w1.cell? ⟨w.heap.size, 1, none⟩ = some _ := (blkcell (k1.blk (heap_alloc_new w _) (fun x => x)) 1).trans rfl
      have cc := (hk1.cell (p := ⟨b, o + k, none⟩) hb (fun x => x)).trans hc
      go_wp2
      go_ret2
      exact ⟨rfl, hk1⟩
    | cons x l =>
      rw [hl] at hc hr
      obtain ⟨_, _, _, hv, hmc, hA⟩ := hr.at_int
      injection hv with hv1 hv2 hv3
      subst hv1
      obtain ⟨b2, o2, rfl, hc2⟩ := hA (by simp)
      have hx := hc2 0 (by simp)
      rw [Nat.add_zero] at hx
      simp only [List.getD_cons_zero] at hx
      have hb2 := cell_below hx
      have hz : (((x :: l).length : Int) == 0) = false := by simp; omega
      clear hr h hc2 hA hmc
      go_enter Try.func66, Try.ntmps66
      go_wp2_with fail
      refine (ref3_is _ _ _ _ _ _).mono ?_
      rintro e w1 ⟨rfl, k1⟩
      rw [isQ_dec, hq]
      have hk1 := ((Keeps.refl (fun _ => False) w).alloc (.cells #[.int .i64 n, .slice (some ⟨b, o, none⟩) qs.length c] 72)).trans' k1
      have cb : w1.cell? ⟨w.heap.size, 1, none⟩ = some _ := (blkcell (k1.blk (heap_alloc_new w _) (fun x => x)) 1).trans rfl
      have cc := (hk1.cell (p := ⟨b, o + k, none⟩) hb (fun x => x)).trans hc
      have cx := (hk1.cell (p := ⟨b2, o2, none⟩) hb2 (fun x => x)).trans hx
      go_wp2
      go_ret2
      exact ⟨rfl, hk1⟩
  · rw [popQx, popQe, if_neg hq, if_neg hq]
    go_enter Try.func66, Try.ntmps66
    go_wp2_with fail
    refine (ref3_is _ _ _ _ _ _).mono ?_
    rintro e w1 ⟨rfl, k1⟩
    rw [isQ_dec, Bool.eq_false_iff.2 hq]
    go_wp2
    go_ret2
    exact ⟨rfl, ((Keeps.refl (fun _ => False) w).alloc _).trans' k1⟩

theorem sumQ_le_of (f : Nat → Nat) : ∀ n k, k ≤ n → sumQ f k ≤ sumQ f n
  | 0, k, h => by obtain rfl : k = 0 := by omega
                  exact Nat.le_refl _
  | n + 1, k, h => by
    by_cases e : k = n + 1
    · subst e; exact Nat.le_refl _
    · have := sumQ_le_of f n k (by omega); simp only [sumQ]; omega

set_option maxHeartbeats 1000000 in
set_option maxRecDepth 100000 in
theorem ref3_free (R : Nat) (v : Value) (qs : List (List Int)) (ok : Nat → Prop) (w : World) (h : RL ok w v qs) (hR : R ≤ 1024) (hQ : qs.length ≤ 64) (hs : sumQ (fun k => (qs.getD k []).length) qs.length ≤ 1024) :
    Calls Try.prog 67 #[.agg #[.int .i64 R, v]] w fun e w' => e = .returned (.int .i64 (freeQ R qs)) ∧ Keeps (fun _ => False) w w' := by
  obtain ⟨A, c, rfl⟩ := h.slice_
  have hblk := heap_alloc_new w (.cells #[.int .i64 R, .slice A qs.length c] 72)
  have hk0 : Keeps (fun _ => False) w (w.alloc (.cells #[.int .i64 R, .slice A qs.length c] 72)) := (Keeps.refl _ _).alloc _
  go_enter Try.func67, Try.ntmps67
  go_wp2
  go_loopg [3, 4] qs.length (fun m nn i wr => ∃ k : Nat, i = .int .i64 k ∧ k + m = qs.length ∧ nn = .int .i64 ((R : Int) - (sumQ (fun k => (qs.getD k []).length) k : Nat)) ∧ wr = w.alloc (.cells #[.int .i64 R, .slice A qs.length c] 72))
  case atStart => exact ⟨0, rfl, by omega, by simp [sumQ], rfl⟩
  case round =>
    obtain ⟨k, rfl, hkm, rfl, rfl⟩ := hrel
    have HKM := Lib.hid hkm
    have hkl : k ≤ qs.length := by omega
    clear hkm
    have hsk := sumQ_le_of (fun k => (qs.getD k []).length) qs.length k hkl
    obtain ⟨sk, hsk'⟩ : ∃ s, s = sumQ (fun k => (qs.getD k []).length) k := ⟨_, rfl⟩
    rw [← hsk'] at hsk ⊢
    have HS := Lib.hid hsk'
    clear hsk'
    by_cases hk : k < qs.length
    · obtain ⟨b, o, Aq, cq, rfl, hb, hc, hr⟩ := h.at_ k hk
      have hsk1 := sumQ_le_of (fun k => (qs.getD k []).length) qs.length (k + 1) (by omega)
      obtain ⟨lk, hlk⟩ : ∃ s, s = (qs.getD k []).length := ⟨_, rfl⟩
      rw [← hlk] at hc
      have hsum : sumQ (fun k => (qs.getD k []).length) (k + 1) = sk + lk := by rw [sumQ, HS.out, hlk]
      rw [hsum] at hsk1
      have HSUM := Lib.hid hsum
      clear hsum hlk hr h
      go_wp2
      have hkm := HKM.out
      go_roundg (gk - 1)
      case measure => omega
      case rel => exact ⟨k + 1, by go_num, by omega, by rw [HSUM.out]; congr 1; omega, rfl⟩
    · have e : k = qs.length := by omega
      go_wp2
      go_ret
      exact ⟨by rw [freeQ, ← e, ← HS.out]; rfl, hk0⟩

end Go.Proofs.Ytlfccifibhcacaa
