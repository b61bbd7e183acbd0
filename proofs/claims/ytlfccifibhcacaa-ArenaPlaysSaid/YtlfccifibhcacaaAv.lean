/- ArenaPlays: whether a table is the document's, about a handle ('as'); the alive of layer 2, step by step. -/
import Derived.Test.YtlfccifibhcacaaAu
namespace Go.Proofs.Ytlfccifibhcacaa
open Go.RowKit
set_option linter.unusedVariables false
set_option linter.unusedSimpArgs false

theorem handles_le {sl : List ASlot} : (handlesA sl).length ≤ sl.length := by
  rw [handlesA, List.length_map]; exact things_len sl

set_option maxHeartbeats 4000000 in
set_option maxRecDepth 100000 in
theorem as2 (g s : Nat) (last h : Int) (v : Value) (sl : List ASlot) (ok : Nat → Prop) (w : World) (ha : HoldsA w g s last sl) (hr : RT ok w v last sl) :
    Calls Try.prog 30 #[.pointer (some ⟨g, 0, none⟩), v, .int .i64 h] w fun e w' => e = .returned (.bool true) ∧ Keeps (fun _ => False) w w' := by
  have hF := ha.fine
  have n1 := hF.n1
  have hml := things_len sl
  have hhl := handles_le (sl := sl)
  obtain ⟨Ag, cg, At, ct, rfl, hg, ht⟩ := hr.form
  clear hg ht
  have hblk := heap_alloc_new w (.cells #[.int .i64 last, .slice Ag sl.length cg, .slice At (things sl).length ct] 54)
  have k0 : Keeps (fun _ => False) w (w.alloc (.cells #[.int .i64 last, .slice Ag sl.length cg, .slice At (things sl).length ct] 54)) := (Keeps.refl _ _).alloc _
  generalize hw0 : w.alloc (.cells #[.int .i64 last, .slice Ag sl.length cg, .slice At (things sl).length ct] 54) = w0 at *
  have e1 : (getX sl h == getX sl h) = true := by simp
  have e2 : (atE sl h == atE sl h) = true := by simp
  have e3 : (((things sl).length : Int) == ((things sl).length : Int)) = true := by simp
  have e4 : ((freeA last sl : Int) == (freeA last sl : Int)) = true := by simp
  go_enter Try.func30, Try.ntmps30
  go_wp2_with fail
  clear hw0
  refine (ar_get g s last sl h _ (ha.still k0)).mono ?_
  rintro e w' ⟨rfl, q1, rfl⟩
  have k1 := k0.drewN q1
  have hb1 : (w0.drewN q1).heap[w.heap.size]? = _ := hblk
  have c0 : (w0.drewN q1).cell? ⟨w.heap.size, 0, none⟩ = some _ := (blkcell hb1 0).trans rfl
  have c1 : (w0.drewN q1).cell? ⟨w.heap.size, 1, none⟩ = some _ := (blkcell hb1 1).trans rfl
  have c2 : (w0.drewN q1).cell? ⟨w.heap.size, 2, none⟩ = some _ := (blkcell hb1 2).trans rfl
  go_wp2_with fail
  refine (rt_get last h _ sl ok _ (hr.still k1) hF).mono ?_
  rintro e w2 ⟨rfl, k2⟩
  have kk2 := k1.trans' k2
  have hb2 := k2.blk hb1 (fun x => x)
  have hS : ∀ W, Keeps (fun _ => False) w2 W → W.cell? ⟨w.heap.size, 0, none⟩ = some (.int .i64 last) ∧ W.cell? ⟨w.heap.size, 1, none⟩ = some (.slice Ag sl.length cg) ∧ W.cell? ⟨w.heap.size, 2, none⟩ = some (.slice At (things sl).length ct) := fun W hW => ⟨(blkcell (hW.blk hb2 (fun x => x)) 0).trans rfl, (blkcell (hW.blk hb2 (fun x => x)) 1).trans rfl, (blkcell (hW.blk hb2 (fun x => x)) 2).trans rfl⟩
  clear hb1 c0 c1 c2 hblk
  go_wp2_with fail
  go_region_held3 (fun W => W.cell? ⟨w.heap.size, 0, none⟩ = some (.int .i64 last) ∧ W.cell? ⟨w.heap.size, 1, none⟩ = some (.slice Ag sl.length cg) ∧ W.cell? ⟨w.heap.size, 2, none⟩ = some (.slice At (things sl).length ct)) (exact hS _ (by repeat (first | (with_reducible assumption) | exact Keeps.refl _ _ | apply Keeps.drew | apply Keeps.drewN)))
    (first | (go_at_call 47; refine (ar_handles g s last sl _ (ha.still (kk2.trans' (by repeat (first | (with_reducible assumption) | exact Keeps.refl _ _ | apply Keeps.drew | apply Keeps.drewN))))).mono ?_; rintro e w10 ⟨u, rfl, hu, k10'⟩; have k10 : Keeps (fun _ => False) w2 w10 := Keeps.trans' (by repeat (first | (with_reducible assumption) | exact Keeps.refl _ _ | apply Keeps.drew | apply Keeps.drewN)) k10'; obtain ⟨A10, c10, rfl⟩ := hu.slice_)
           | (go_at_call 56; refine (rt_handles last _ sl ok _ (hr.still (kk2.trans' (by repeat (first | (with_reducible assumption) | exact Keeps.refl _ _ | apply Keeps.drew | apply Keeps.drewN)))) hF).mono ?_; rintro e w11 ⟨u, rfl, hv, k11'⟩; have k11 : Keeps (fun _ => False) w2 w11 := Keeps.trans' (by repeat (first | (with_reducible assumption) | exact Keeps.refl _ _ | apply Keeps.drew | apply Keeps.drewN)) k11'; obtain ⟨A11, c11, rfl⟩ := hv.slice_)
           | (go_at_call 17; refine (ref2_same (handlesA sl).length _ _ (handlesA sl) (handlesA sl) _ _ _ (hu.keeps k11' (fun _ _ _ x => x)) hv (by omega)).mono ?_; rintro e w12 ⟨rfl, q12, rfl⟩; have k12 : Keeps (fun _ => False) w2 (w11.drewN q12) := k11.drewN q12)
           | (go_at_call 45; refine (ar_len g s last sl _ (ha.still (kk2.trans' (by repeat (first | (with_reducible assumption) | exact Keeps.refl _ _ | apply Keeps.drew | apply Keeps.drewN))))).mono ?_; rintro e w13 ⟨rfl, rfl⟩)
           | (go_at_call 46; refine (ar_free g s last sl _ (ha.still (kk2.trans' (by repeat (first | (with_reducible assumption) | exact Keeps.refl _ _ | apply Keeps.drew | apply Keeps.drewN))))).mono ?_; rintro e w14 ⟨rfl, q14, rfl⟩)
           | (go_at_call 57; refine (rt_free last _ sl ok _ (hr.still (kk2.trans' (by repeat (first | (with_reducible assumption) | exact Keeps.refl _ _ | apply Keeps.drew | apply Keeps.drewN)))) hF).mono ?_; rintro e w15 ⟨rfl, k15'⟩; have k15 : Keeps (fun _ => False) w2 w15 := Keeps.trans' (by repeat (first | (with_reducible assumption) | exact Keeps.refl _ _ | apply Keeps.drew | apply Keeps.drewN)) k15'))
  go_wp2_with fail
  go_ret
  exact ⟨rfl, kk2.trans' (by repeat (first | (with_reducible assumption) | exact Keeps.refl _ _ | apply Keeps.drew | apply Keeps.drewN))⟩

theorem a_ret1 {e : Ending} {a b : Int} (h : e = .returned (.int .i64 a)) (hab : a = b) : e = .returned (.int .i64 b) := by rw [h, hab]
theorem a_ret2 {e : Ending} {a b c d : Int} (h : e = .returned (.tuple #[.int .i64 a, .int .i64 c])) (hab : a = b) (hcd : c = d) : e = .returned (.tuple #[.int .i64 b, .int .i64 d]) := by rw [h, hab, hcd]

set_option maxHeartbeats 2000000 in
set_option maxRecDepth 100000 in
theorem law2_alive (w : World) : Calls Try.prog 21 #[] w fun e w' => e = .returned (.bool true) ∧ Keeps (fun _ => False) w w' := by
  go_enter Try.func21, Try.ntmps21
  go_wp2_with fail
  refine (ar_new 1 2 _ (by omega) (by omega) (by omega) (by omega)).mono ?_
  rintro e w1 ⟨g, s, rfl, hg, hs, h1, k1⟩
  replace h1 : HoldsA w1 g s 2 [⟨0, false, 0⟩] := h1
  go_wp2_with fail
  refine (ar_add _ _ _ _ _ _ h1).mono ?_
  rintro e w2 ⟨he, h2, k2⟩
  obtain rfl := a_ret2 he (show _ = (4096 : Int) from by decide) (show _ = (0 : Int) from by decide)
  replace h2 : HoldsA w2 g s 2 [⟨1, true, 5⟩] := h2
  go_wp2_with fail
  refine (ar_drop _ _ _ _ _ _ h2).mono ?_
  rintro e w3 ⟨he, h3, k3⟩
  obtain rfl := a_ret1 he (show _ = (0 : Int) from by decide)
  replace h3 : HoldsA w3 g s 2 [⟨1, false, 0⟩] := h3
  go_wp2_with fail
  refine (ar_add _ _ _ _ _ _ h3).mono ?_
  rintro e w4 ⟨he, h4, k4⟩
  obtain rfl := a_ret2 he (show _ = (8192 : Int) from by decide) (show _ = (0 : Int) from by decide)
  replace h4 : HoldsA w4 g s 2 [⟨2, true, 6⟩] := h4
  go_wp2_with fail
  refine (ar_get _ _ _ _ _ _ h4).mono ?_
  rintro e w' ⟨he, q5, rfl⟩
  obtain rfl := a_ret2 he (show _ = (6 : Int) from by decide) (show _ = (0 : Int) from by decide)
  have h5 : HoldsA (w4.drewN q5) g s 2 [⟨2, true, 6⟩] := h4.still ((Keeps.refl _ _).drewN q5)
  go_wp2_with fail
  refine (ar_get _ _ _ _ _ _ h5).mono ?_
  rintro e w' ⟨he, q6, rfl⟩
  obtain rfl := a_ret2 he (show _ = (0 : Int) from by decide) (show _ = (9 : Int) from by decide)
  have h6 : HoldsA ((w4.drewN q5).drewN q6) g s 2 [⟨2, true, 6⟩] := h5.still ((Keeps.refl _ _).drewN q6)
  have k6 : Keeps (fun _ => False) w4 ((w4.drewN q5).drewN q6) := ((Keeps.refl _ _).drewN q5).drewN q6
  generalize hw6 : (w4.drewN q5).drewN q6 = w6 at *
  go_wp2_with fail
  clear hw6
  refine (ar_drop _ _ _ _ _ _ h6).mono ?_
  rintro e w7 ⟨he, h7, k7⟩
  obtain rfl := a_ret1 he (show _ = (0 : Int) from by decide)
  replace h7 : HoldsA w7 g s 2 [⟨2, false, 0⟩] := h7
  go_wp2_with fail
  refine (ar_add _ _ _ _ _ _ h7).mono ?_
  rintro e w8 ⟨he, h8, k8⟩
  obtain rfl := a_ret2 he (show _ = (0 : Int) from by decide) (show _ = (10 : Int) from by decide)
  replace h8 : HoldsA w8 g s 2 [⟨2, false, 0⟩] := h8
  go_wp2_with fail
  refine (ar_len _ _ _ _ _ h8).mono ?_
  rintro e w' ⟨he, rfl⟩
  obtain rfl := a_ret1 he (show _ = (0 : Int) from by decide)
  go_wp2_with fail
  refine (ar_free _ _ _ _ _ h8).mono ?_
  rintro e w' ⟨he, q9, rfl⟩
  obtain rfl := a_ret1 he (show _ = (0 : Int) from by decide)
  have h9 := h8.still ((Keeps.refl _ _).drewN q9)
  go_wp2_with fail
  refine (ar_handles _ _ _ _ _ h9).mono ?_
  rintro e w10 ⟨u, rfl, hu, k10⟩
  obtain ⟨Au, cu, rfl⟩ := hu.slice_
  rw [show (handlesA [⟨2, false, 0⟩]).length = 0 from by decide]
  go_wp2
  go_ret
  have kk : ∀ {a b : World}, Keeps (fun k => k = g ∨ k = s) a b → Keeps (fun b => w.heap.size ≤ b) a b := fun h => h.mono (by rintro k _ (rfl | rfl) <;> assumption)
  have k0 : ∀ {a b : World}, Keeps (fun _ => False) a b → Keeps (fun b => w.heap.size ≤ b) a b := fun h => h.mono (fun _ _ x => x.elim)
  have k := ((((((kk k2).trans' (kk k3)).trans' (kk k4)).trans' (k0 k6)).trans' (kk k7)).trans' (kk k8)).trans' (k0 (((Keeps.refl _ _).drewN q9).trans' k10))
  exact ⟨rfl, k1.trans k (fun b hb hb' => by omega)⟩
end Go.Proofs.Ytlfccifibhcacaa
