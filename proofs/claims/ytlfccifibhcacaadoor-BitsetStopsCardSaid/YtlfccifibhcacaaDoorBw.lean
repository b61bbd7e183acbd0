/- Sets of ids: List of the program. -/
import Derived.Test.YtlfccifibhcacaaDoorBo
import Derived.Test.YtlfccifibhcacaaDoorKs
import Derived.RangeFuncBox
import Derived.Maps.AppendAt
namespace Go.Proofs.YtlfccifibhcacaaDoor
open Go.RowKit Go.Shelf
set_option linter.unusedVariables false
set_option linter.unusedSimpArgs false
attribute [local go_sem] Oper.semAt_some

theorem kpB_t {b1 b2 : Nat} {A B C : World} (h : KpB b1 b2 A B) (k : KpB b1 b2 B C) : KpB b1 b2 A C := fun b hb => (k b hb).trans (h b hb)
theorem kpB_b {b1 b2 n : Nat} (h1 : b1 < n) (h2 : b2 < n) (W : World) (l : Nat) (o o' : Obj) (hl : n ≤ l) (h : W.heap[l]? = some o) (_ : o.isCells = false) (_ : o.isWalk = false) : KpB b1 b2 W (W.putObj l o') :=
  fun b hb => World.putObj_heap_other (fun e => by rcases hb with rfl | rfl <;> omega)

abbrev intsN (l : List Nat) : List Value := l.map (fun x : Nat => Value.int .i64 x)
abbrev setQ (W : Nat → Nat) : Obj := .cells #[.int .u64 (W 0), .int .u64 (W 1), .int .u64 (W 2), .int .u64 (W 3)] 26 (0, 0)
theorem cap_own {β : Type} (b : Nat) (cs : Array Value) (t : TypeId) (fr : Nat × Nat) : Own (fun (s : β) W => W.heap[b]? = some (.cells cs t fr)) := fun s X Y row hs hg hr =>
  (hg.block b (blklt hs) (fun e => by
    obtain ⟨o, ho, hc⟩ := hr b e.symm
    rw [hs] at ho
    cases ho
    cases hc)).trans hs
/-- Between two rounds: the box B holds the ids so far. -/
def IL (w : World) (B b : Nat) (S : Nat → Nat) (pre : List Nat) (W : World) : Prop :=
  (∃ v, Boxed W B 24 v ∧ W.ownsRow w.heap.size 3 1 v pre.length (intsN pre) ∧ True) ∧ Below w.heap.size w W ∧ W.heap[b]? = some (setQ S)
theorem il_own {w : World} {B b n : Nat} {S : Nat → Nat} (hn : w.heap.size ≤ n) : OwnFrom n (IL w B b S) :=
  OwnFrom.and (Own.from (holdsRow_own w.heap.size B 24 3 1 (fun pre : List Nat => pre.length) (fun pre => intsN pre) (fun _ _ => True)) _) (OwnFrom.and (ownFrom_below (Nat.le_refl _) hn) (Own.from (cap_own b _ 26 (0, 0)) _))
theorem obj_on {W2 w1 : World} {B b t k n0 : Nat} {cs : Array Value} {fr : Nat × Nat} {v v' : Value} {xs : List Value} {tmp : Obj} (h : W2.heap[b]? = some (.cells cs t fr)) (hne : t ≠ 3) (hBB : b ≠ B) (hrow : W2.ownsRow n0 3 1 v k xs) (hgrow : (W2.alloc tmp).grownBy w1 v.ownBlock) :
    (w1.setCell ⟨B, 0, none⟩ v').heap[b]? = some (.cells cs t fr) := by
  refine (Below.heap_setCell _ _ _ b hBB).trans ((hgrow.block b (by have := blklt h; simp; omega) (fun e => ?_)).trans (blkalloc h tmp))
  rcases hrow.2 with ⟨rfl, _⟩ | ⟨g, cap, cur, rfl, _, hgb, _⟩
  · simp [Value.ownBlock] at e
  · obtain rfl : b = g := by simpa [Value.ownBlock] using e
    rw [h] at hgb
    injection hgb with hgb
    injection hgb with _ h2 _
    exact hne h2
theorem kpIL {w : World} {B b : Nat} {S : Nat → Nat} {pre pre' : List Nat} {X Y : World} (l0 : 0 < w.heap.size) (h : IL w B b S pre X) (k : IL w B b S pre' Y) : KpB b 0 X Y := by
  intro c hc
  rcases hc with rfl | rfl
  · exact k.2.2.trans h.2.2.symm
  · exact (k.2.1.block 0 l0).trans (h.2.1.block 0 l0).symm
theorem Tryd.infoI : (Tryd.prog.info? 3).map (fun i => (i.zero, i.size, i.bytes)) = some (some (.int .i64 0), 1, 8) := by kernel_rfl

set_option maxHeartbeats 4000000 in
set_option maxRecDepth 100000 in
theorem p_list (S : Nat → Nat) (hS : W64 S) (w : World) (hT : Tab w) (l0 : 0 < w.heap.size) :
    Calls Tryd.prog 4 #[setV S] w fun e w' => ∃ v, e = .returned v ∧ Rds (fun b => w.heap.size ≤ b) w' v 1 (ids S).length (intsN (ids S)) ∧ Keeps (fun _ => False) w w' := by
  refine (callsIn_wide (n := 5)).1 ?_
  refine callsIn_of_wp_marks Tryd.func4 rfl trivial ?_ rfl
  simp only [Tryd.ntmps4, List.size_toArray, List.length_cons, List.length_nil, Nat.reduceAdd, Nat.reduceSub, Array.replicate_succ, Array.replicate_zero, List.push_toArray, List.append_toArray, List.nil_append, List.cons_append]
  refine wpIn_wide.2 ?_
  go_wp2_with fail
  refine (p_all S _).mono ?_
  rintro e w' ⟨rfl, rfl⟩
  go_wp2_with fail
  have bB : (((w.alloc (.cells #[.int .u64 (S 0), .int .u64 (S 1), .int .u64 (S 2), .int .u64 (S 3)] 26)).alloc (.cells #[.slice none 0 0] 24)).alloc (.cells #[.int .u64 (S 0), .int .u64 (S 1), .int .u64 (S 2), .int .u64 (S 3)] 26)).heap[w.heap.size + 1]? = some (.cells #[.slice none 0 0] 24 (0, 0)) := by
    have := blkalloc (heap_alloc_new (w.alloc (.cells #[.int .u64 (S 0), .int .u64 (S 1), .int .u64 (S 2), .int .u64 (S 3)] 26)) (.cells #[.slice none 0 0] 24)) (.cells #[.int .u64 (S 0), .int .u64 (S 1), .int .u64 (S 2), .int .u64 (S 3)] 26)
    rwa [World.size_alloc] at this
  have bS : (((w.alloc (.cells #[.int .u64 (S 0), .int .u64 (S 1), .int .u64 (S 2), .int .u64 (S 3)] 26)).alloc (.cells #[.slice none 0 0] 24)).alloc (.cells #[.int .u64 (S 0), .int .u64 (S 1), .int .u64 (S 2), .int .u64 (S 3)] 26)).heap[w.heap.size + 1 + 1]? = some (setQ S) := by
    have := heap_alloc_new ((w.alloc (.cells #[.int .u64 (S 0), .int .u64 (S 1), .int .u64 (S 2), .int .u64 (S 3)] 26)).alloc (.cells #[.slice none 0 0] 24)) (.cells #[.int .u64 (S 0), .int .u64 (S 1), .int .u64 (S 2), .int .u64 (S 3)] 26)
    rwa [World.size_alloc, World.size_alloc] at this
  have k5 : Keeps (fun _ => False) w (((w.alloc (.cells #[.int .u64 (S 0), .int .u64 (S 1), .int .u64 (S 2), .int .u64 (S 3)] 26)).alloc (.cells #[.slice none 0 0] 24)).alloc (.cells #[.int .u64 (S 0), .int .u64 (S 1), .int .u64 (S 2), .int .u64 (S 3)] 26)) := (((Keeps.refl _ _).alloc _).alloc _).alloc _
  generalize (((w.alloc (.cells #[.int .u64 (S 0), .int .u64 (S 1), .int .u64 (S 2), .int .u64 (S 3)] 26)).alloc (.cells #[.slice none 0 0] 24)).alloc (.cells #[.int .u64 (S 0), .int .u64 (S 1), .int .u64 (S 2), .int .u64 (S 3)] 26)) = w5 at *
  have hbel : Below w.heap.size w w5 := k5.toBelow (fun _ h => h.elim) (Nat.le_refl _)
  have hT5 := hT.keeps k5
  have hsz5 := blklt bS
  refine (wpIn_wide (n := 5)).1 ?_
  refine wpIn_rangeFunc_ownG rfl (by omega) (gf := 8) (lb := #[.pointer (some ⟨w.heap.size + 1 + 1, 0, none⟩)]) rfl trivial (enters_of Tryd.func8 (by kernel_rfl) rfl)
    (all1_stops 4 (by omega) (w.heap.size + 1 + 1) S hS w5 (by omega) bS hT5) kpB_t (kpB_b (by omega) (by omega)) (Below.refl _ _) (fun _ => rfl)
    (IL w (w.heap.size + 1) (w.heap.size + 1 + 1) S) (fun _ _ _ => False) (il_own k5.size) (fun c => by rintro s X Y row h; exact h.elim)
    ⟨⟨_, bB, World.ownsRow_nil _ _ _ _, trivial⟩, hbel, bS⟩
    (fun x => { tmps := #[setV S, .pointer (some ⟨w.heap.size, 0, none⟩), .slice none 0 0, .pointer (some ⟨w.heap.size + 1, 0, none⟩), .int .i64 x, .agg #[.int .u64 (S 0), .int .u64 (S 1), .int .u64 (S 2), .int .u64 (S 3)], .func (.func 8) #[] #[.pointer (some ⟨w.heap.size + 1 + 1, 0, none⟩)], .int .i64 x, undef, undef, undef, undef, undef], defers := [] }) ?assign ?body ?done ?stop
  case assign =>
    intro l x W K hK
    gi_wp2
    exact hK
  case body =>
    rintro l pre x W hI hlt
    obtain ⟨⟨v, hv, hrow, _⟩, hB, hcap⟩ := hI
    obtain ⟨i0, hi, hz0, hz1, hz2⟩ := info_parts Tryd.infoI
    have hvc := hv.cell
    have hl256 := ids_len S
    have hpl : pre.length < 256 := by omega
    have HL := Lib.hid hlt
    clear hlt
    gi_wp2_with (gi_at_builtin; refine wpListIn_append_own _ rfl _ _ 24 rfl w.heap.size 3 i0 (.int .i64 0) 1 8 Tryd.underlying24 hi hz0 hz1 hz2 rfl (by decide) _ _ _ rfl (hrow.alloc _) ⟨W.heap.size, 0, none⟩ 1 1 [.int .i64 x] rfl rfl (cell_one_new _ _ _) (by simp [Value.oneCell']) (by unfold maxLen; omega) (by omega) (by have := hB.size; simp; omega) ?_; intro v' w1 hown' hgrow _; obtain ⟨g', cap', rfl⟩ := ownsRow_succ hown'; obtain ⟨hv1, hv3, hr3, hk3, hb3⟩ := hv.appended (by decide) hrow hB.size (by omega) hown' hgrow; have hc1' := hv1.cell; have hf1 := hv1.frozen)
    have hI2 : IL w (w.heap.size + 1) (w.heap.size + 1 + 1) S (pre ++ [x]) _ := ⟨⟨_, hv3, by rw [List.length_append, intsN, List.map_append]; exact hr3, trivial⟩, hB.trans hb3, obj_on hcap (by decide) (by omega) hrow hgrow⟩
    exact ⟨hk3.from _, kpIL l0 (pre := pre) ⟨⟨v, hv, hrow, trivial⟩, hB, hcap⟩ hI2, hI2⟩
  case done =>
    rintro D pre W hD rfl ⟨⟨v, hv, hrow, _⟩, hB, hcap⟩ hK
    have hvc := hv.cell
    gi_wp2
    go_wp2
    refine ⟨by simp, .inl ⟨_, _, rfl, run_takeDeferred hK, ?_⟩⟩
    refine ⟨_, results_tmp rfl _ _ _, v, rfl, Rds.own (ownsRow_putObj hrow _ hK rfl), ?_⟩
    exact Keeps.below (hB.trans (belowK_b (w := w) (Nat.le_refl _) W D _ _ (by omega) hK rfl rfl)) _
  case stop =>
    rintro D c pre W hD hpre hIx hK
    exact hIx.elim
end Go.Proofs.YtlfccifibhcacaaDoor
