/- QueuePlays: whether a pool is the document's, about a queue ('as'). -/
import Derived.Test.YtlfccifibhcacaaQj
import Derived.Test.YtlfccifibhcacaaQa
import Derived.Outline
namespace Go.Proofs.Ytlfccifibhcacaa
open Go.RowKit
set_option linter.unusedVariables false
set_option linter.unusedSimpArgs false

theorem Holds3.sum {w : World} {g N L R Q : Nat} {qs : List (List Int)} (h : Holds3 w g N L R Q qs) : sumQ (fun k => (qs.getD k []).length) qs.length ≤ 1024 := by
  have hR := h.len
  obtain ⟨cap, xs, I, h1, h2, h3⟩ := h
  have := Holds3.free h1 h2 h3
  unfold freeQ at this
  omega

set_option maxHeartbeats 4000000 in
set_option maxRecDepth 100000 in
theorem as3 (g N L R Q : Nat) (q : Int) (v : Value) (qs : List (List Int)) (ok : Nat → Prop) (w : World) (hp : Holds3 w g N L R Q qs) (hr : RL ok w v qs) :
    Calls Try.prog 40 #[.pointer (some ⟨g, 0, none⟩), .agg #[.int .i64 R, v], .int .i64 q] w fun e w' => e = .returned (.bool true) ∧ Keeps (fun _ => False) w w' := by
  obtain ⟨hlen, hQ, hR, hQ0⟩ := hp.len
  have hsum := hp.sum
  have hsm := hp.small q
  have hQ' : qs.length ≤ 64 := by omega
  clear hlen
  obtain ⟨A, c, rfl⟩ := hr.slice_
  have hblk := heap_alloc_new w (.cells #[.int .i64 R, .slice A qs.length c] 72)
  have hk0 : Keeps (fun _ => False) w (w.alloc (.cells #[.int .i64 R, .slice A qs.length c] 72)) := (Keeps.refl _ _).alloc _
  have e1 : (popQx qs q == popQx qs q) = true := by simp
  have e2 : (popQe qs q == popQe qs q) = true := by simp
  have e3 : (freeQ R qs == freeQ R qs) = true := by simp
  go_enter Try.func40, Try.ntmps40
  go_wp2_with fail
  refine (h3_first g N L R Q q qs _ (hp.still hk0)).mono ?_
  rintro e w1 ⟨rfl, k1⟩
  have kk1 := hk0.trans' k1
  have hb1 := k1.blk hblk (fun x => x)
  have c0 : w1.cell? ⟨w.heap.size, 0, none⟩ = some _ := (blkcell hb1 0).trans rfl
  have c1 : w1.cell? ⟨w.heap.size, 1, none⟩ = some _ := (blkcell hb1 1).trans rfl
  go_wp2_with fail
  refine (ref3_first R q _ qs ok _ (hr.still kk1)).mono ?_
  rintro e w2 ⟨rfl, k2⟩
  have kk2 := kk1.trans' k2
  have hb2 := k2.blk hb1 (fun x => x)
  have hS : ∀ W, Keeps (fun _ => False) w2 W → W.cell? ⟨w.heap.size, 0, none⟩ = some (.int .i64 R) ∧ W.cell? ⟨w.heap.size, 1, none⟩ = some (.slice A qs.length c) := fun W hW => ⟨(blkcell (hW.blk hb2 (fun x => x)) 0).trans rfl, (blkcell (hW.blk hb2 (fun x => x)) 1).trans rfl⟩
  clear hb1 c0 c1 hblk
  go_wp2_with fail
  go_region_held3 (fun W => W.cell? ⟨w.heap.size, 0, none⟩ = some (.int .i64 R) ∧ W.cell? ⟨w.heap.size, 1, none⟩ = some (.slice A qs.length c)) (exact hS _ (by repeat (first | (with_reducible assumption) | exact Keeps.refl _ _ | apply Keeps.drew)))
    (first | (go_at_call 60; refine (h3_list g N L R Q q qs _ (hp.still (kk2.trans' (by repeat (first | (with_reducible assumption) | exact Keeps.refl _ _ | apply Keeps.drew))))).mono ?_; rintro e w10 ⟨u, rfl, hu, k10'⟩; have k10 : Keeps (fun _ => False) w2 w10 := Keeps.trans' (by repeat (first | (with_reducible assumption) | exact Keeps.refl _ _ | apply Keeps.drew)) k10'; obtain ⟨A10, c10, rfl⟩ := hu.slice_)
           | (go_at_call 68; refine (ref3_list R q _ qs ok _ (hr.still (kk2.trans' (by repeat (first | (with_reducible assumption) | exact Keeps.refl _ _ | apply Keeps.drew))))).mono ?_; rintro e w11 ⟨u, rfl, hv, k11'⟩; have k11 : Keeps (fun _ => False) w2 w11 := Keeps.trans' (by repeat (first | (with_reducible assumption) | exact Keeps.refl _ _ | apply Keeps.drew)) k11'; obtain ⟨A11, c11, rfl⟩ := hv.slice_)
           | (go_at_call 17; refine (ref2_same (listQ qs q).length _ _ (listQ qs q) (listQ qs q) _ _ _ (hu.keeps k11' (fun _ _ _ x => x)) hv (by omega)).mono ?_; rintro e w12 ⟨rfl, q12, rfl⟩; have k12 : Keeps (fun _ => False) w2 (w11.drewN q12) := k11.drewN q12)
           | (go_at_call 59; refine (h3_len g N L R Q q qs _ (hp.still (kk2.trans' (by repeat (first | (with_reducible assumption) | exact Keeps.refl _ _ | apply Keeps.drew))))).mono ?_; rintro e w13 ⟨rfl, rfl⟩)
           | (go_at_call 41; refine (h3_free g N L R Q qs _ (hp.still (kk2.trans' (by repeat (first | (with_reducible assumption) | exact Keeps.refl _ _ | apply Keeps.drew))))).mono ?_; rintro e w14 ⟨rfl, rfl⟩)
           | (go_at_call 67; refine (ref3_free R _ qs ok _ (hr.still (kk2.trans' (by repeat (first | (with_reducible assumption) | exact Keeps.refl _ _ | apply Keeps.drew)))) hR hQ' hsum).mono ?_; rintro e w15 ⟨rfl, k15'⟩; have k15 : Keeps (fun _ => False) w2 w15 := Keeps.trans' (by repeat (first | (with_reducible assumption) | exact Keeps.refl _ _ | apply Keeps.drew)) k15'))
  go_wp2_with fail
  go_ret
  exact ⟨rfl, kk2.trans' k15⟩
end Go.Proofs.Ytlfccifibhcacaa
