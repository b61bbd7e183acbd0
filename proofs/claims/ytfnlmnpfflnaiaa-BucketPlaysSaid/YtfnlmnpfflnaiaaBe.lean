/- The document's buckets (becket/becketref24), by their contracts over lists of lists. -/
import Derived.Test.YtfnlmnpfflnaiaaBd
import Derived.Test.YtfnlmnpfflnaiaaKs
import Derived.Deep.RegionHeld3
import Derived.Deep.LoopGhost
import Derived.Deep.OwnRows
namespace Go.Proofs.Ytfnlmnpfflnaiaa
open Go.RowKit
set_option linter.unusedVariables false
set_option linter.unusedSimpArgs false

theorem Try.info33 : (Try.prog.info? 33).map (fun i => (i.zero, i.size, i.bytes)) = some (some (.slice none 0 0), 1, 24) := by kernel_rfl
theorem Try.info3 : (Try.prog.info? 3).map (fun i => (i.zero, i.size, i.bytes)) = some (some (.int .i64 0), 1, 8) := by kernel_rfl

/-- A slice of slices of ints, that reads as these lists. -/
def RL (ok : Nat → Prop) (w : World) (v : Value) (qs : List (List Int)) : Prop :=
  ∃ vs : List Value, Rds ok w v 1 qs.length vs ∧ ∀ q, q < qs.length → Rds ok w (vs.getD q undef) 1 (qs.getD q []).length (ints (qs.getD q []))

theorem RL.keeps {ok : Nat → Prop} {w w' : World} {v : Value} {qs : List (List Int)} {S : Nat → Prop} (h : RL ok w v qs) (hk : Keeps S w w') (hS : ∀ k, ok k → k < w.heap.size → ¬ S k) : RL ok w' v qs := by
  obtain ⟨vs, h1, h2⟩ := h
  exact ⟨vs, h1.keeps hk hS, fun q hq => (h2 q hq).keeps hk hS⟩
theorem RL.still {ok : Nat → Prop} {w w' : World} {v : Value} {qs : List (List Int)} (h : RL ok w v qs) (hk : Keeps (fun _ => False) w w') : RL ok w' v qs := h.keeps hk (fun _ _ _ x => x)
theorem RL.mono {ok ok' : Nat → Prop} {w : World} {v : Value} {qs : List (List Int)} (h : RL ok w v qs) (hk : ∀ k, ok k → k < w.heap.size → ok' k) : RL ok' w v qs := by
  obtain ⟨vs, h1, h2⟩ := h
  exact ⟨vs, h1.mono hk, fun q hq => (h2 q hq).mono hk⟩
theorem RL.slice_ {ok : Nat → Prop} {w : World} {v : Value} {qs : List (List Int)} (h : RL ok w v qs) : ∃ A c, v = .slice A qs.length c := by
  obtain ⟨vs, h1, _⟩ := h; exact h1.slice_

/-- The list at a place, in memory. -/
theorem RL.at_ {ok : Nat → Prop} {w : World} {A : Option Addr} {c : Nat} {qs : List (List Int)} (h : RL ok w (.slice A qs.length c) qs) (q : Nat) (hq : q < qs.length) :
    ∃ b o Aq cq, A = some ⟨b, o, none⟩ ∧ b < w.heap.size ∧ w.cell? ⟨b, o + q, none⟩ = some (.slice Aq (qs.getD q []).length cq) ∧ Rds ok w (.slice Aq (qs.getD q []).length cq) 1 (qs.getD q []).length (ints (qs.getD q [])) := by
  obtain ⟨vs, ⟨hl, A', c', hv, hc, hA⟩, h2⟩ := h
  injection hv with hv1 hv2 hv3
  subst hv1
  obtain ⟨b, o, hA, hok, hlt, hcell⟩ := hA.resolve_left (by omega)
  have h3 := h2 q hq
  obtain ⟨Aq, cq, he⟩ := h3.slice_
  refine ⟨b, o, Aq, cq, hA, hlt, ?_, he ▸ h3⟩
  rw [← he]
  have hlt2 : q < vs.length := by rw [hl]; omega
  exact hcell q _ (by simp [List.getD, hlt2])

/-- A row that is owned, with one element written. -/
theorem own_put {w : World} {B e n g c q : Nat} {xs : List Value} (h : w.ownsRow B e 1 (.slice (some ⟨g, 0, none⟩) n c) n xs) (u : Value) (hq : q < n) :
    w.heap[g]? = none ∨ (B ≤ g ∧ (∃ cs, w.heap[g]? = some (.cells cs e (0, 0))) ∧ (w.cell? ⟨g, q, none⟩).isSome = true ∧ Rds (fun b => B ≤ b) (w.setCell ⟨g, q, none⟩ u) (.slice (some ⟨g, 0, none⟩) n c) 1 n (xs.set q u)) := by
  have hcells := fun g hg => h.cells (g := g) hg
  obtain ⟨hl, hh⟩ := h
  rcases hh with ⟨hv, _⟩ | ⟨g', cap, cur, hv, hB, hheap, hn, hm, hsz, htake⟩
  · cases hv
  · injection hv with hv1 hv2 hv3
    injection hv1 with hv1
    injection hv1 with hg
    subst hg; subst hv3
    refine .inr ⟨hB, ⟨_, hheap⟩, ?_, by simpa using hl, _, c, rfl, hn, .inr ⟨g, 0, rfl, hB, ?_, fun j v hv => ?_⟩⟩
    · rw [blkcell hheap]; simp; omega
    · have := blklt hheap; simpa [World.setCell] using this
    · rw [Nat.zero_add]
      rw [List.getElem?_set] at hv
      by_cases e : q = j
      · subst e
        rw [if_pos rfl] at hv
        split at hv
        · injection hv with hv; subst hv
          exact World.cell?_setCell_same' _ _ _ (by rw [blkcell hheap]; simp; omega)
        · cases hv
      · rw [if_neg e] at hv
        have := hcells g rfl j v hv
        rw [add_plain'] at this
        exact cset_ne this (ad_ne (.inr e))


theorem r24_new_bad (q : Int) (w : World) (h : q < 0 ∨ 4 < q) :
    Calls Try.prog 8 #[.int .i64 q] w fun e w' => e = .returned (.tuple #[.slice none 0 0, .int .i64 1]) ∧ w = w' := by
  by_cases h1 : q < 0
  · go_enter Try.func8, Try.ntmps8
    go_wp2
    go_ret2
    exact ⟨rfl, rfl⟩
  · have h2 : 4 < q := by omega
    go_enter Try.func8, Try.ntmps8
    go_wp2
    go_ret2
    exact ⟨rfl, rfl⟩

set_option maxHeartbeats 1000000 in
theorem r24_new (Q : Nat) (w : World) (h2 : Q ≤ 4) :
    Calls Try.prog 8 #[.int .i64 Q] w fun e w' => ∃ v, e = .returned (.tuple #[v, .int .i64 0]) ∧ RL (fun b => w.heap.size ≤ b) w' v (List.replicate Q []) ∧ Keeps (fun _ => False) w w' := by
  have a1 : ¬ ((Q : Int) < 0) := by omega
  have a2 : ¬ (4 < (Q : Int)) := by omega
  have hmk := run_make_row' (P := Try.prog) 28 33 (.slice none 0 0) 24 Try.underlying28 Try.info33 rfl .i64 .i64 Q (by omega) (by omega)
  go_enter Try.func8, Try.ntmps8
  go_wp2
  go_ret2
  refine ⟨.slice (some ⟨w.heap.size, 0, none⟩) Q Q, rfl, ⟨List.replicate Q (.slice none 0 0), ⟨by simp, some ⟨w.heap.size, 0, none⟩, Q, by simp, by simp, .inr ⟨w.heap.size, 0, rfl, by simp, by simp, fun j u hu => ?_⟩⟩, fun q hq => ?_⟩, (Keeps.refl _ _).alloc _⟩
  · have hb := heap_alloc_new w (.cells (madeCells #[.slice none 0 0] Q) 33)
    rw [Nat.zero_add, blkcell hb, madeCells, Array.getElem?_map, Array.getElem?_range]
    obtain ⟨hj, e⟩ := List.getElem?_eq_some_iff.1 hu
    simp only [List.length_replicate] at hj
    simp only [List.getElem_replicate] at e
    subst e
    simp [hj, Nat.mod_one]
  · simp only [List.length_replicate] at hq
    have e1 : (List.replicate Q (Value.slice none 0 0)).getD q undef = .slice none 0 0 := by simp [List.getD, hq]
    have e2 : (List.replicate Q ([] : List Int)).getD q [] = [] := by simp [List.getD, hq]
    rw [e1, e2]
    exact Rds.nil_ _ _ _ _ _

theorem r24_list (v : Value) (k : Int) (bs : List (List Int)) (ok : Nat → Prop) (w : World) (h : RL ok w v bs) :
    Calls Try.prog 17 #[v, .int .i64 k] w fun e w' => ∃ u, e = .returned u ∧ Rds ok w u 1 (listQ bs k).length (ints (listQ bs k)) ∧ w = w' := by
  obtain ⟨A, c, rfl⟩ := h.slice_
  by_cases hk : isQ bs k = true
  · obtain ⟨k, rfl, hkk⟩ := isQ_yes hk
    rw [listQ, if_pos hk, qAt_nat]
    obtain ⟨b, o, Aq, cq, rfl, hb, hc, hr⟩ := h.at_ k hkk
    generalize bs.getD k [] = lk at hc hr ⊢
    have HR := Lib.hid hr
    clear hr h
    go_enter Try.func17, Try.ntmps17
    go_wp2
    go_ret
    exact ⟨_, rfl, HR.out, rfl⟩
  · rw [listQ, if_neg hk]
    by_cases h0 : k < 0
    · go_enter Try.func17, Try.ntmps17
      go_wp2
      go_ret
      exact ⟨_, rfl, Rds.nil_ _ _ _ _ _, rfl⟩
    · have h1 : (bs.length : Int) ≤ k := by rcases isQ_no hk with h | h; exact absurd h h0; exact h
      go_enter Try.func17, Try.ntmps17
      go_wp2
      go_ret
      exact ⟨_, rfl, Rds.nil_ _ _ _ _ _, rfl⟩

set_option maxHeartbeats 1000000 in
set_option maxRecDepth 100000 in
theorem r24_put (q : Nat) (v : Value) (l : List Int) (lv : Value) (qs : List (List Int)) (ok : Nat → Prop) (w : World) (h : RL ok w v qs) (hl : Rds ok w lv 1 l.length (ints l)) (hq : q < qs.length) (hsmall : qs.length ≤ 64) :
    Calls Try.prog 23 #[v, .int .i64 q, lv] w fun e w' => ∃ v', e = .returned v' ∧ RL (fun b => ok b ∨ w.heap.size ≤ b) w' v' (qs.set q l) ∧ Keeps (fun _ => False) w w' := by
  obtain ⟨A, c, rfl⟩ := h.slice_
  obtain ⟨Al, cl, rfl⟩ := hl.slice_
  obtain ⟨vs, h1, h2⟩ := h
  have hone : ∀ u ∈ vs, u.oneCell' = true := by
    intro u hu
    obtain ⟨j, hj, rfl⟩ := List.getElem_of_mem hu
    have hlen : vs.length = qs.length := by simpa using h1.1
    obtain ⟨_, _, e⟩ := (h2 j (by omega)).slice_
    simp only [List.getD, List.getElem?_eq_getElem hj, Option.getD_some] at e
    rw [e]; rfl
  have HP := Lib.hid h1
  have H2 := Lib.hid h2
  have HL := Lib.hid hl
  clear h1 h2 hl
  have HO := Lib.hid hone
  clear hone
  go_enter Try.func23, Try.ntmps23
  go_wp2_with (at_builtin; refine wpList_append_rds _ rfl _ _ 28 rfl w.heap.size 33 (.slice none 0 0) 1 24 Try.underlying28 Try.info33 rfl (by decide) (.slice none 0 0) 0 [] rfl (World.ownsRow_nil _ _ _ _) _ _ _ _ rfl HP.out ?c1 ?c2 ?c3 ?c4 ?_)
  case c1 => exact HO.out
  case c2 => unfold maxLen; omega
  case c3 => omega
  case c4 => exact Nat.le_refl _
  intro A1 p1 w1 hown1 hgrow1 hat1
  have hk1 : Keeps (fun _ => False) w w1 := (Keeps.refl _ w).grown hgrow1 (fun k hk => by simp [Value.ownBlock] at hk)
  obtain ⟨g, rfl⟩ : ∃ g, A1 = some ⟨g, 0, none⟩ := by
    rcases hown1.2 with ⟨_, h0⟩ | ⟨g, cap, _, hv, _⟩
    · omega
    · injection hv with hv; exact ⟨g, hv⟩
  rcases own_put (q := q) hown1 (.slice Al l.length cl) hq with hnone | ⟨hgB, ⟨gcs, hgb⟩, hsome, hput⟩
  · exfalso
    rcases hown1.2 with ⟨hv, _⟩ | ⟨g', cap, cur, hv, hB, hheap, _⟩
    · cases hv
    · injection hv with hv1; injection hv1 with hv1; injection hv1 with hg; subst hg; rw [hnone] at hheap; cases hheap
  have fg := blkfrozen hgb q
  obtain ⟨old, hold⟩ := Option.isSome_iff_exists.1 hsome
  go_wp2
  go_ret
  have hkk : Keeps (fun _ => False) w (w1.setCell ⟨g, q, none⟩ (.slice Al l.length cl)) := hk1.setCell (.inr (by show w.heap.size ≤ g; omega)) _
  have hvl : vs.length = qs.length := by simpa using HP.out.1
  refine ⟨.slice (some ⟨g, 0, none⟩) qs.length p1, rfl, ⟨vs.set q (.slice Al l.length cl), ?_, fun k hk => ?_⟩, hkk⟩
  · rw [List.length_set]
    exact hput.mono (fun k hk _ => .inr (by omega))
  · rw [List.length_set] at hk
    rw [getD_set _ _ _ _ hq]
    by_cases e : k = q
    · subst e
      rw [if_pos rfl, show (vs.set k (Value.slice Al l.length cl)).getD k undef = .slice Al l.length cl by simp [List.getD, show k < vs.length by omega]]
      exact (HL.out.keeps hkk (fun _ _ _ x => x)).mono (fun _ h _ => .inl h)
    · rw [if_neg e, show (vs.set q (Value.slice Al l.length cl)).getD k undef = vs.getD k undef by simp [List.getD, List.getElem?_set, show q ≠ k from fun x => e x.symm]]
      exact ((H2.out k hk).keeps hkk (fun _ _ _ x => x)).mono (fun _ h _ => .inl h)
end Go.Proofs.Ytfnlmnpfflnaiaa
