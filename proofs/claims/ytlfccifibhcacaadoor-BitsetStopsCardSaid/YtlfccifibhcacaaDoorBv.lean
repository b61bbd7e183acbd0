/- Sets of ids: Of of the program. -/
import Derived.Test.YtlfccifibhcacaaDoorBu
namespace Go.Proofs.YtlfccifibhcacaaDoor
open Go.RowKit Go.Shelf
set_option linter.unusedVariables false
set_option linter.unusedSimpArgs false

theorem Rds.at_int {ok : Nat → Prop} {w : World} {v : Value} {m : Nat} {l : List Int} (h : Rds ok w v 1 m (l.map (Value.int .i64))) : l.length = m ∧ ∃ A c, v = .slice A m c ∧ m ≤ c ∧ (0 < m → ∃ b o, A = some ⟨b, o, none⟩ ∧ b < w.heap.size ∧ ∀ j, j < m → w.cell? ⟨b, o + j, none⟩ = some (.int .i64 (l.getD j 0))) := by
  obtain ⟨hl, A, c, hv, hc, h⟩ := h
  have hl' : l.length = m := by simpa using hl
  refine ⟨hl', A, c, hv, hc, fun hpos => ?_⟩
  rcases h with h | ⟨b, o, hA, hb, hlt, h⟩
  · omega
  · exact ⟨b, o, hA, hlt, fun j hj => h j _ (by simp [List.getD, show j < l.length by omega])⟩
theorem cells_of (W : Nat → Nat) : (⟨[Value.int .u64 (W 0), .int .u64 (W 1), .int .u64 (W 2), .int .u64 (W 3)]⟩ : Array Value) = #[.int .u64 (W 0), .int .u64 (W 1), .int .u64 (W 2), .int .u64 (W 3)] := rfl
abbrev setO (W : Nat → Nat) : Obj := .cells #[.int .u64 (W 0), .int .u64 (W 1), .int .u64 (W 2), .int .u64 (W 3)] 26 (0, 0)

set_option maxHeartbeats 4000000 in
set_option maxRecDepth 100000 in
theorem p_of (v : Value) (l : List Int) (ok : Nat → Prop) (w : World) (h : Rds ok w v 1 l.length (l.map (Value.int .i64))) (hbig : l.length ≤ 1000000) :
    Calls Tryd.prog 6 #[v] w fun e w' => e = .returned (setV (ofI l)) ∧ Keeps (fun _ => False) w w' := by
  obtain ⟨A, c, rfl⟩ := h.slice_
  have HH := Lib.hid h
  clear h
  have b1 := blkalloc (heap_alloc_new w (.cells #[.int .u64 0, .int .u64 0, .int .u64 0, .int .u64 0] 26)) (.cells #[.int .u64 0, .int .u64 0, .int .u64 0, .int .u64 0] 26)
  have b2 := heap_alloc_new (w.alloc (.cells #[.int .u64 0, .int .u64 0, .int .u64 0, .int .u64 0] 26)) (.cells #[.int .u64 0, .int .u64 0, .int .u64 0, .int .u64 0] 26)
  rw [World.size_alloc] at b2
  have k0 : Keeps (fun _ => False) w ((w.alloc (.cells #[.int .u64 0, .int .u64 0, .int .u64 0, .int .u64 0] 26)).alloc (.cells #[.int .u64 0, .int .u64 0, .int .u64 0, .int .u64 0] 26)) := ((Keeps.refl _ _).alloc _).alloc _
  go_enter Tryd.func6, Tryd.ntmps6
  go_wp2_with fail
  generalize ((w.alloc (.cells #[.int .u64 0, .int .u64 0, .int .u64 0, .int .u64 0] 26)).alloc (.cells #[.int .u64 0, .int .u64 0, .int .u64 0, .int .u64 0] 26)) = w0 at *
  go_loopg [5, 8] l.length (fun m x i wr => ∃ j : Nat, i = .int .i64 j ∧ j + m = l.length ∧ Keeps (fun _ => False) w wr ∧ wr.heap[w.heap.size]? = some (setO (fun _ => 0)) ∧ wr.heap[w.heap.size + 1]? = some (setO (ofI (l.take j))))
  case atStart => exact ⟨0, rfl, by omega, k0, b1, b2⟩
  case round =>
    obtain ⟨j, rfl, hjm, kw, d1, d2⟩ := hrel
    have HJM := Lib.hid hjm
    have hjl : j ≤ l.length := by omega
    clear hjm b1 b2 k0
    by_cases hj : j < l.length
    · have hj' : (j : Int) < l.length := by omega
      obtain ⟨_, A', c', hv, _, hA⟩ := HH.out.at_int
      injection hv with hv1 hv2 hv3
      subst hv1
      subst hv3
      obtain ⟨b, o, rfl, hlt, hc⟩ := hA (by omega)
      have x1 := (kw.cell (p := ⟨b, o + j, none⟩) hlt (fun x => x)).trans (hc j hj)
      have hs : ofI (l.take (j + 1)) = addI (ofI (l.take j)) (l.getD j 0) := by
        rw [List.take_succ_eq_append_getElem hj, ofI_snoc]; simp [List.getD, List.getElem?_eq_getElem hj]
      have HS := Lib.hid hs
      have h64 := ofI_64 (l.take j)
      generalize ofI (l.take j) = W at *
      generalize l.getD j 0 = z at *
      have hadd := p_add W h64 z
      have HA := Lib.hid hadd
      clear hadd hs hc h64
      have c0 : wr.cell? ⟨w.heap.size + 1, 0, none⟩ = some (.int .u64 (W 0)) := (blkcell d2 0).trans rfl
      have c1 : wr.cell? ⟨w.heap.size + 1, 1, none⟩ = some (.int .u64 (W 1)) := (blkcell d2 1).trans rfl
      have c2 : wr.cell? ⟨w.heap.size + 1, 2, none⟩ = some (.int .u64 (W 2)) := (blkcell d2 2).trans rfl
      have c3 : wr.cell? ⟨w.heap.size + 1, 3, none⟩ = some (.int .u64 (W 3)) := (blkcell d2 3).trans rfl
      go_wp2_with fail
      refine (HA.out wr).mono ?_
      rintro e w1 ⟨rfl, k1⟩
      have kw1 := kw.trans' k1
      have d1' := k1.blk d1 (fun x => x)
      have d2' := k1.blk d2 (fun x => x)
      have hw1 := kw.size
      clear c0 c1 c2 c3 d1 d2 k1 kw x1
      have r0 : w1.cell? ⟨w.heap.size + 1, 0, none⟩ = some (.int .u64 (W 0)) := (blkcell d2' 0).trans rfl
      have r1 : w1.cell? ⟨w.heap.size + 1, 1, none⟩ = some (.int .u64 (W 1)) := (blkcell d2' 1).trans rfl
      have r2 : w1.cell? ⟨w.heap.size + 1, 2, none⟩ = some (.int .u64 (W 2)) := (blkcell d2' 2).trans rfl
      have r3 : w1.cell? ⟨w.heap.size + 1, 3, none⟩ = some (.int .u64 (W 3)) := (blkcell d2' 3).trans rfl
      have g0 := blkfrozen d2' 0
      have g1 := blkfrozen d2' 1
      have g2 := blkfrozen d2' 2
      have g3 := blkfrozen d2' 3
      generalize addI W z = V at *
      go_wp2_with fail
      have dF := blkset (blkset (blkset (blkset d2' 0 (.int .u64 (V 0))) 1 (.int .u64 (V 1))) 2 (.int .u64 (V 2))) 3 (.int .u64 (V 3))
      have dG := blkfar (blkfar (blkfar (blkfar d1' (p := ⟨w.heap.size + 1, 0, none⟩) (by simp) (.int .u64 (V 0))) (p := ⟨w.heap.size + 1, 1, none⟩) (by simp) (.int .u64 (V 1))) (p := ⟨w.heap.size + 1, 2, none⟩) (by simp) (.int .u64 (V 2))) (p := ⟨w.heap.size + 1, 3, none⟩) (by simp) (.int .u64 (V 3))
      have hjm := HJM.out
      go_roundg (gk - 1)
      case measure => omega
      case rel => exact ⟨j + 1, by go_num, by omega, (((kw1.setCell (.inr (by simp)) _).setCell (.inr (by simp)) _).setCell (.inr (by simp)) _).setCell (.inr (by simp)) _, dG, by rw [HS.out]; exact dF⟩
    · have e : j = l.length := by omega
      subst e
      rw [List.take_length] at d2
      obtain ⟨W, hW⟩ : ∃ W, W = ofI l := ⟨_, rfl⟩
      rw [← hW] at d2
      have HW := Lib.hid hW
      clear hW
      have c0 : wr.cell? ⟨w.heap.size + 1, 0, none⟩ = some (.int .u64 (W 0)) := (blkcell d2 0).trans rfl
      have c1 : wr.cell? ⟨w.heap.size + 1, 1, none⟩ = some (.int .u64 (W 1)) := (blkcell d2 1).trans rfl
      have c2 : wr.cell? ⟨w.heap.size + 1, 2, none⟩ = some (.int .u64 (W 2)) := (blkcell d2 2).trans rfl
      have c3 : wr.cell? ⟨w.heap.size + 1, 3, none⟩ = some (.int .u64 (W 3)) := (blkcell d2 3).trans rfl
      have r0 : wr.cell? ⟨w.heap.size, 0, none⟩ = some (.int .u64 ((0 : Nat) : Int)) := (blkcell d1 0).trans rfl
      have r1 : wr.cell? ⟨w.heap.size, 1, none⟩ = some (.int .u64 ((0 : Nat) : Int)) := (blkcell d1 1).trans rfl
      have r2 : wr.cell? ⟨w.heap.size, 2, none⟩ = some (.int .u64 ((0 : Nat) : Int)) := (blkcell d1 2).trans rfl
      have r3 : wr.cell? ⟨w.heap.size, 3, none⟩ = some (.int .u64 ((0 : Nat) : Int)) := (blkcell d1 3).trans rfl
      have g0 := blkfrozen d1 0
      have g1 := blkfrozen d1 1
      have g2 := blkfrozen d1 2
      have g3 := blkfrozen d1 3
      go_wp2_with fail
      have dF := blkset (blkset (blkset (blkset d1 0 (.int .u64 (W 0))) 1 (.int .u64 (W 1))) 2 (.int .u64 (W 2))) 3 (.int .u64 (W 3))
      exact bodyPost_ret (res4 Tryd.f6 2 _ rfl _ _ (.int .u64 (W 0)) (.int .u64 (W 1)) (.int .u64 (W 2)) (.int .u64 (W 3)) rfl dF) rfl ⟨by rw [← HW.out], (((kw.setCell (.inr (by simp)) _).setCell (.inr (by simp)) _).setCell (.inr (by simp)) _).setCell (.inr (by simp)) _⟩
end Go.Proofs.YtlfccifibhcacaaDoor
