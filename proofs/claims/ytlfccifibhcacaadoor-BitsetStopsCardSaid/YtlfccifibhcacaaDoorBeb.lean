/- Sets of ids: the document's Same; alive. -/
import Derived.Test.YtlfccifibhcacaaDoorBea
import Derived.Deep.RegionHeld3
namespace Go.Proofs.YtlfccifibhcacaaDoor
open Go.RowKit Go.Shelf
set_option linter.unusedVariables false
set_option linter.unusedSimpArgs false

set_option maxHeartbeats 2000000 in
theorem r_same (u v : Value) (l : List Int) (ok ok' : Nat → Prop) (w : World) (h : Rds ok w u 1 l.length (l.map (Value.int .i64))) (h' : Rds ok' w v 1 l.length (l.map (Value.int .i64))) (hbig : l.length ≤ 1000000) :
    Calls Tryd.prog 13 #[u, v] w fun e w' => e = .returned (.bool true) ∧ Keeps (fun _ => False) w w' := by
  obtain ⟨_, A, c, rfl, _, hA⟩ := h.at_int
  obtain ⟨_, B, d, rfl, _, hB⟩ := h'.at_int
  have HA := Lib.hid hA
  have HB := Lib.hid hB
  clear hA hB h h'
  go_enter Tryd.func13, Tryd.ntmps13
  go_wp2_with fail
  go_loopg [5] l.length (fun m i wr => ∃ j q : Nat, i = .int .i64 j ∧ j + m = l.length ∧ wr = w.drewN q)
  case atStart => exact ⟨0, 0, rfl, by omega, rfl⟩
  case round =>
    obtain ⟨j, q, rfl, hjm, rfl⟩ := hrel
    have HJM := Lib.hid hjm
    have hjl : j ≤ l.length := by omega
    clear hjm
    by_cases hj : j < l.length
    · have hj' : (j : Int) < l.length := by omega
      obtain ⟨b, o, rfl, _, hc⟩ := HA.out (by omega)
      obtain ⟨b', o', rfl, _, hc'⟩ := HB.out (by omega)
      have c1 : ∀ n, (w.drewN n).cell? ⟨b, o + j, none⟩ = some (.int .i64 (l.getD j 0)) := fun _ => hc j hj
      have c2 : ∀ n, (w.drewN n).cell? ⟨b', o' + j, none⟩ = some (.int .i64 (l.getD j 0)) := fun _ => hc' j hj
      clear hc hc'
      generalize l.getD j 0 = z at *
      go_wp2_with fail
      refine wp_qall (w0 := w) ⟨q, rfl⟩ (by kernel_rfl) (by kernel_rfl) ?_
      repeat go_big_quiet_step (fail)
      refine wpQuiet_nil (fun nq => ?_)
      go_wp2_with fail
      have hjm := HJM.out
      go_roundg (gk - 1)
      case measure => omega
      case rel => exact ⟨j + 1, nq, by go_num, by omega, rfl⟩
    · go_wp2_with fail
      go_ret
      exact ⟨rfl, (Keeps.refl _ _).drewN q⟩

def wA : Nat → Nat := ofI [3, 70, 256]
theorem wA_64 : W64 wA := ofI_64 _
theorem wA_V : setV wA = A4 8 64 0 0 := by kernel_rfl
theorem wA_ids : ids wA = [3, 70] := by kernel_rfl
theorem wA_nxt : nextV (nxt wA 4) = .tuple #[.int .i64 70, .bool true] := by kernel_rfl
theorem wA_add : setV (addI wA 5) = A4 40 64 0 0 := by kernel_rfl
theorem rds_ints (w : World) (a b c : Int) : Rds (fun _ => True) (w.alloc (.cells #[.int .i64 a, .int .i64 b, .int .i64 c] 3)) (.slice (some ⟨w.heap.size, 0, none⟩) 3 3) 1 3 ([a, b, c].map (Value.int .i64)) := by
  refine ⟨rfl, _, 3, rfl, Nat.le_refl _, .inr ⟨_, 0, rfl, trivial, by simp, fun j u hj => ?_⟩⟩
  rw [Nat.zero_add, blkcell (heap_alloc_new w _) j]
  simpa using hj
theorem rds_ints2 (w : World) (a b : Int) : Rds (fun _ => True) (w.alloc (.cells #[.int .i64 a, .int .i64 b] 3)) (.slice (some ⟨w.heap.size, 0, none⟩) 2 2) 1 2 ([a, b].map (Value.int .i64)) := by
  refine ⟨rfl, _, 2, rfl, Nat.le_refl _, .inr ⟨_, 0, rfl, trivial, by simp, fun j u hj => ?_⟩⟩
  rw [Nat.zero_add, blkcell (heap_alloc_new w _) j]
  simpa using hj
theorem eq_A (w : World) : (Op.equalIn 10000 26 (A4 8 64 0 0) (A4 8 64 0 0)).run Tryd.prog w = .ok true w := by kernel_rfl

theorem has_f (n : Int) (hn : n = 70 ∨ n = 4) (w : World) : Calls Tryd.prog 12 #[A4 8 64 0 0, .int .i64 n] w fun e w' => e = .returned (.bool (decide (n = 70))) ∧ Keeps (fun _ => False) w w' := by
  rcases hn with rfl | rfl
  · exact has_70 w
  · exact has_4 w
theorem sub_f (n : Int) (hn : n = 0 ∨ n = 40) (w : World) : Calls Tryd.prog 14 #[A4 n 64 0 0, A4 8 64 0 0] w fun e w' => e = .returned (.bool (decide (n = 0))) ∧ Keeps (fun _ => False) w w' := by
  rcases hn with rfl | rfl
  · exact sub_yes w
  · exact sub_no w

set_option maxHeartbeats 8000000 in
set_option maxRecDepth 100000 in
theorem p_alive (w : World) (hT : Tab w) (l0 : 0 < w.heap.size) : Calls Tryd.prog 7 #[] w fun e w' => e = .returned (.bool true) ∧ Keeps (fun _ => False) w w' := by
  have hof : Calls Tryd.prog 6 #[.slice (some ⟨w.heap.size, 0, none⟩) 3 3] (w.alloc (.cells #[.int .i64 3, .int .i64 70, .int .i64 256] 3)) fun e w' => e = .returned (A4 8 64 0 0) ∧ Keeps (fun _ => False) (w.alloc (.cells #[.int .i64 3, .int .i64 70, .int .i64 256] 3)) w' := by
    have := p_of _ [3, 70, 256] _ _ (rds_ints w 3 70 256) (by decide)
    rwa [show setV (ofI [3, 70, 256]) = A4 8 64 0 0 from wA_V] at this
  have k0 : Keeps (fun _ => False) w (w.alloc (.cells #[.int .i64 3, .int .i64 70, .int .i64 256] 3)) := (Keeps.refl _ _).alloc _
  go_enter Tryd.func7, Tryd.ntmps7
  go_wp2_with fail
  generalize (w.alloc (.cells #[.int .i64 3, .int .i64 70, .int .i64 256] 3)) = w0 at *
  refine hof.mono ?_
  rintro e w1 ⟨rfl, k1⟩
  clear hof
  have k01 := k0.trans' k1
  have hT1 := hT.keeps k01
  have hb := heap_alloc_new w1 (.cells #[.int .u64 8, .int .u64 64, .int .u64 0, .int .u64 0] 26)
  have k2 : Keeps (fun _ => False) w1 (w1.alloc (.cells #[.int .u64 8, .int .u64 64, .int .u64 0, .int .u64 0] 26)) := (Keeps.refl _ _).alloc _
  go_wp2_with fail
  generalize (w1.alloc (.cells #[.int .u64 8, .int .u64 64, .int .u64 0, .int .u64 0] 26)) = w2 at *
  have k02 := k01.trans' k2
  have hT2 := hT1.keeps k2
  have hn := p_next wA wA_64 4 w2 hT2 (by decide)
  rw [wA_nxt, show setV wA = A4 8 64 0 0 from wA_V] at hn
  refine hn.mono ?_
  clear hn
  rintro e w3 ⟨rfl, k3⟩
  have k03 := k02.trans' k3
  have hT3 := hT2.keeps k3
  have hb3 := k3.blk hb (fun x => x)
  have l3 : 0 < w3.heap.size := by have := k03.size; omega
  go_wp2_with fail
  have hS : ∀ W, Keeps (fun _ => False) w3 W → W.cell? ⟨w1.heap.size, 0, none⟩ = some (.int .u64 8) ∧ W.cell? ⟨w1.heap.size, 1, none⟩ = some (.int .u64 64) ∧ W.cell? ⟨w1.heap.size, 2, none⟩ = some (.int .u64 0) ∧ W.cell? ⟨w1.heap.size, 3, none⟩ = some (.int .u64 0) := fun W k =>
    ⟨(blkcell (k.blk hb3 (fun x => x)) 0).trans rfl, (blkcell (k.blk hb3 (fun x => x)) 1).trans rfl, (blkcell (k.blk hb3 (fun x => x)) 2).trans rfl, (blkcell (k.blk hb3 (fun x => x)) 3).trans rfl⟩
  have h4 : ∀ W, Keeps (fun _ => False) w3 W → Calls Tryd.prog 4 #[A4 8 64 0 0] W fun e w' => ∃ v, e = .returned v ∧ Rds (fun b => W.heap.size ≤ b) w' v 1 2 ([3, 70].map (Value.int .i64)) ∧ Keeps (fun _ => False) W w' := fun W k => by
    have := p_list wA wA_64 W (hT3.keeps k) (by have := k.size; omega)
    rwa [wA_ids, show setV wA = A4 8 64 0 0 from wA_V] at this
  have h10 : ∀ W, Calls Tryd.prog 10 #[A4 8 64 0 0, .int .i64 5] W fun e w' => e = .returned (A4 40 64 0 0) ∧ Keeps (fun _ => False) W w' := fun W => by
    have := p_add wA wA_64 5 W
    rwa [wA_add, show setV wA = A4 8 64 0 0 from wA_V] at this
  have HS := Lib.hid hS
  have H4 := Lib.hid h4
  have H10 := Lib.hid h10
  have heq := eq_A
  clear hS h4 h10 k0 k1 k01 k2 k02 k3 hT hT1 hT2 hT3 hb hb3
  go_region_held3 (fun W => W.cell? ⟨w1.heap.size, 0, none⟩ = some (.int .u64 8) ∧ W.cell? ⟨w1.heap.size, 1, none⟩ = some (.int .u64 64) ∧ W.cell? ⟨w1.heap.size, 2, none⟩ = some (.int .u64 0) ∧ W.cell? ⟨w1.heap.size, 3, none⟩ = some (.int .u64 0)) (exact HS.out _ (by repeat (first | exact Keeps.refl _ _ | (with_reducible assumption) | apply Keeps.drew | apply Keeps.drewN | apply Keeps.alloc | (refine Keeps.trans' ?_ (by with_reducible assumption))))) ((first
    | (go_at_call 4; refine (H4.out _ (by repeat (first | exact Keeps.refl _ _ | (with_reducible assumption) | apply Keeps.drew | apply Keeps.drewN | apply Keeps.alloc | (refine Keeps.trans' ?_ (by with_reducible assumption))))).mono ?_; rintro e w4 ⟨v4, rfl, hv4, k4⟩; replace hv4 := hv4.mono (fun _ _ _ => trivial))
    | (go_at_call 13; refine (r_same _ _ [3, 70] _ _ _ (hv4.keeps (by repeat (first | exact Keeps.refl _ _ | (with_reducible assumption) | apply Keeps.drew | apply Keeps.drewN | apply Keeps.alloc | (refine Keeps.trans' ?_ (by with_reducible assumption)))) (fun _ _ _ x => x)) ((rds_ints2 _ 3 70).keeps (by repeat (first | exact Keeps.refl _ _ | (with_reducible assumption) | apply Keeps.drew | apply Keeps.drewN | apply Keeps.alloc | (refine Keeps.trans' ?_ (by with_reducible assumption)))) (fun _ _ _ x => x)) (by decide)).mono ?_; rintro e w13 ⟨rfl, k13⟩)
    | (go_at_call 11; refine (len_2 _).mono ?_; rintro e w11 ⟨rfl, k11⟩)
    | (go_at_call 12; refine (has_f _ (by decide) _).mono ?_; rintro e w12 ⟨rfl, k12⟩)
    | (go_at_call 15; refine (drop_3 _).mono ?_; rintro e w15 ⟨rfl, k15⟩)
    | (go_at_call 14; refine (sub_f _ (by decide) _).mono ?_; rintro e w14 ⟨rfl, k14⟩)
    | (go_at_call 10; refine (H10.out _).mono ?_; rintro e w10 ⟨rfl, k10⟩)))
  all_goals
    go_wp2_with fail
    go_ret
    exact ⟨rfl, k03.trans' (by repeat (first | exact Keeps.refl _ _ | (with_reducible assumption) | apply Keeps.drew | apply Keeps.drewN | apply Keeps.alloc | (refine Keeps.trans' ?_ (by with_reducible assumption))))⟩
end Go.Proofs.YtlfccifibhcacaaDoor
