/- Choices: as many as memory holds; alive. -/
import Derived.Test.YtbfdiejcbiocpaaCt
import Derived.Test.YtbfdiejcbiocpaaCb
import Derived.Test.YtbfdiejcbiocpaaKk
namespace Go.Proofs.Ytbfdiejcbiocpaa
open Go.RowKit Go.Shelf
set_option linter.unusedVariables false
set_option linter.unusedSimpArgs false

set_option maxHeartbeats 1000000 in
theorem to_pBig (v : Value) (cs : List Ch) (ok : Nat → Prop) (w : World) (h : Rds ok w v 3 cs.length (flatC cs)) (hbig : cs.length * 24 ≤ 140737488351232) :
    Calls Try.prog 8 #[v] w fun e w' => ∃ u, e = .returned u ∧ Rds (fun b => w.heap.size ≤ b) w' u 3 cs.length (flatC cs) ∧ Keeps (fun _ => False) w w' := by
  obtain ⟨A, c, rfl⟩ := h.slice_
  have HH := Lib.hid h
  clear h
  go_enter Try.func8, Try.ntmps8
  go_wp2_with fail
  go_loopg [3, 8] cs.length (fun m u i wr => ∃ j : Nat, i = .int .i64 j ∧ j + m = cs.length ∧ Keeps (fun _ => False) w wr ∧ wr.ownsRow w.heap.size 36 3 u j (flatC (cs.take j)))
  case atStart => exact ⟨0, rfl, by omega, Keeps.refl _ _, World.ownsRow_nil _ _ _ _⟩
  case round =>
    obtain ⟨j, rfl, hjm, kw, hown⟩ := hrel
    have HJM := Lib.hid hjm
    have hjl : j ≤ cs.length := by omega
    clear hjm
    obtain ⟨Au, cu, rfl⟩ := own_slice' hown
    have hwz := kw.size
    by_cases hj : j < cs.length
    · have hj' : (j : Int) < cs.length := by omega
      obtain ⟨b, o, rfl, x1, x2, x3⟩ := chCells HH.out kw hj
      have hsucc := take_succ_C hj
      have HS := Lib.hid hsucc
      clear hsucc
      generalize cs.getD j c0 = t at *
      go_wp2_with (at_builtin; go_loud (refine wpList_append_rds _ rfl _ _ 29 rfl w.heap.size 36 (.agg #[.int .i64 0, .int .i64 0, .int .i64 0]) 3 24 Try.underlying29 (Try.infoC 36 (.inr rfl)) rfl (by decide) _ j (flatC (cs.take j)) rfl ((hown.alloc _).alloc _) _ _ 1 (flatC [t]) rfl (rds_blkC2 _ _ _ _) ?c1 ?c2 ?c3 ?c4 ?_))
      case c1 => exact flatC_one _
      case c2 => unfold maxLen; omega
      case c3 => omega
      case c4 => simp; omega
      intro A1 p1 w1 hown1 hgrow1 hat1
      have hk1 : Keeps (fun _ => False) w w1 := ((kw.alloc _).alloc _).grown hgrow1 (fun k hk hlt => by have := (hown.lt k hk).1; omega)
      go_wp2_with fail
      have hjm := HJM.out
      go_roundg (gk - 1)
      case measure => omega
      case rel => exact ⟨j + 1, by go_num, by omega, hk1, by rw [HS.out, flatC_app]; exact hown1⟩
    · have e : j = cs.length := by omega
      subst e
      rw [List.take_length] at hown
      go_wp2_with fail
      go_ret
      exact ⟨_, rfl, Rds.own hown, kw⟩

def chA : Ch := ⟨1, 258, 0⟩
def bsA : ByteArray := ⟨#[0, 1, 1, 1, 2]⟩
def bsX : ByteArray := ⟨#[120, 0, 1, 1, 1, 2]⟩
theorem bytesA : (⟨(bytesC [chA]).toArray⟩ : ByteArray) = bsA := by decide
theorem readA_E : readE bsX.data.toList 1 = 0 := by decide
theorem readB_E : readE bsA.data.toList 1 = 4 := by decide
theorem readA_L : readL bsX.data.toList 1 = [chA] := by unfold readL; rw [if_pos readA_E]; rfl
theorem readB_L : readL bsA.data.toList 1 = [] := by unfold readL; rw [if_neg (by rw [readB_E]; decide)]
theorem readA_T : readTo bsX.data.toList 1 = 6 := by decide
theorem allA : allI [⟨0, 3, 0⟩, ⟨0, 256, 0⟩] = 1 ∧ allE [⟨0, 3, 0⟩, ⟨0, 256, 0⟩] = 8 := by decide
theorem chkA : chk ⟨2, 0, 0⟩ = 12 := by decide
theorem rds_blk2 (w : World) (c d : Ch) (ty : TypeId) : Rds (fun _ => True) (w.alloc (.cells #[.int .i64 c.k, .int .i64 c.v, .int .i64 c.w, .int .i64 d.k, .int .i64 d.v, .int .i64 d.w] ty)) (.slice (some ⟨w.heap.size, 0, none⟩) 2 2) 3 2 (flatC [c, d]) := by
  refine ⟨rfl, _, 2, rfl, Nat.le_refl _, .inr ⟨_, 0, rfl, trivial, by simp, fun j u hj => ?_⟩⟩
  rw [Nat.zero_add, blkcell (heap_alloc_new w _) j]
  simpa [flatC] using hj
theorem toL_A : (bsA.toList == [0, 1, 1, 1, 2]) = true := by kernel_rfl
theorem cat_x : (⟨#[120]⟩ : ByteArray) ++ bsA = bsX := by decide

set_option maxHeartbeats 4000000 in
set_option maxRecDepth 100000 in
theorem p_alive (w : World) : Calls Try.prog 6 #[] w fun e w' => e = .returned (.bool true) ∧ Keeps (fun _ => False) w w' := by
  have hA := rds_blkC w chA 36
  have kA : Keeps (fun _ => False) w (w.alloc (.cells #[.int .i64 1, .int .i64 258, .int .i64 0] 36)) := (Keeps.refl _ _).alloc _
  have hblk := heap_alloc_new w (.cells #[.int .i64 1, .int .i64 258, .int .i64 0] 36)
  simp only [chA] at hA
  go_enter Try.func6, Try.ntmps6
  go_wp2_with fail
  generalize (w.alloc (.cells #[.int .i64 1, .int .i64 258, .int .i64 0] 36)) = w0 at *
  refine (p_bytes _ [chA] _ _ hA).mono ?_
  rintro e w1 ⟨rfl, k1⟩
  rw [bytesA]
  go_wp2_with fail
  have hr := p_read bsX 1 w1 (by decide) (by decide)
  rw [cat_x]
  refine hr.mono ?_
  rintro e w2 ⟨v, rfl, hv, k2⟩
  rw [readA_L] at hv
  rw [readA_T, readA_E]
  obtain ⟨_, A, c, rfl, hmc, hc⟩ := hv.at_C
  obtain ⟨b, o, rfl, hlt, hc⟩ := hc (by decide)
  obtain ⟨x1, x2, x3⟩ := hc 0 (by decide)
  rw [Nat.zero_mul, Nat.add_zero] at x1 x2 x3
  simp only [List.length_singleton] at *
  go_wp2_with fail
  refine (p_read bsA 1 w2 (by decide) (by decide)).mono ?_
  rintro e w3 ⟨v2, rfl, hv2, k3⟩
  rw [readB_E]
  generalize readTo bsA.data.toList 1 = to2
  go_wp2_with fail
  refine (p_all _ [⟨0, 3, 0⟩, ⟨0, 256, 0⟩] _ _ (rds_blk2 w3 ⟨0, 3, 0⟩ ⟨0, 256, 0⟩ 36)).mono ?_
  rintro e w4 ⟨rfl, k4⟩
  rw [allA.1, allA.2]
  have k14 : Keeps (fun _ => False) w0 w4 := (((k1.trans' k2).trans' k3).alloc _).trans' k4
  have k24 : Keeps (fun _ => False) w2 w4 := ((k3).alloc _).trans' k4
  have hb4 : b < w4.heap.size := by have := k24.size; omega
  have hblk4 := k14.blk hblk (fun x => x)
  have y1 := (k24.cell (p := ⟨b, o, none⟩) hlt (fun x => x)).trans x1
  have y2 := (k24.cell (p := ⟨b, o + 1, none⟩) hlt (fun x => x)).trans x2
  have y3 := (k24.cell (p := ⟨b, o + 2, none⟩) hlt (fun x => x)).trans x3
  have g1 : ∀ W : KW w4, W.w.cell? ⟨b, o, none⟩ = some (.int .i64 1) := fun W => (W.keeps.cell (p := ⟨b, o, none⟩) hb4 (fun x => x)).trans y1
  have g2 : ∀ W : KW w4, W.w.cell? ⟨b, o + 1, none⟩ = some (.int .i64 258) := fun W => (W.keeps.cell (p := ⟨b, o + 1, none⟩) hb4 (fun x => x)).trans y2
  have g3 : ∀ W : KW w4, W.w.cell? ⟨b, o + 2, none⟩ = some (.int .i64 0) := fun W => (W.keeps.cell (p := ⟨b, o + 2, none⟩) hb4 (fun x => x)).trans y3
  have g4 : ∀ W : KW w4, W.w.cell? ⟨w.heap.size, 0, none⟩ = some (.int .i64 1) := fun W => (blkcell (W.keeps.blk hblk4 (fun x => x)) 0).trans rfl
  have g5 : ∀ W : KW w4, W.w.cell? ⟨w.heap.size, 1, none⟩ = some (.int .i64 258) := fun W => (blkcell (W.keeps.blk hblk4 (fun x => x)) 1).trans rfl
  have g6 : ∀ W : KW w4, W.w.cell? ⟨w.heap.size, 2, none⟩ = some (.int .i64 0) := fun W => (blkcell (W.keeps.blk hblk4 (fun x => x)) 2).trans rfl
  have kk : Keeps (fun _ => False) w w4 := kA.trans' k14
  clear k1 k2 k3 k4 hc x1 x2 x3 y1 y2 y3 hA hblk hv hv2 hr
  have hck : ∀ W : KW w4, Calls Try.prog 12 #[.agg #[.int .i64 2, .int .i64 0, .int .i64 0]] W.w fun e w' => e = .returned (.int .i64 12) ∧ Keeps (fun _ => False) W.w w' := fun W => p_check ⟨2, 0, 0⟩ W.w
  have HCK := Lib.hid hck
  have hbs := toL_A
  clear hck
  go_wp2_with fail
  refine wp_qkeep (w0 := w4) (Keeps.refl _ _) (by kernel_rfl) (by kernel_rfl) ?_
  repeat (go_big_quiet_step ((go_at_call 12; exact calls_k (HCK.out _))))
  refine wpQuiet_nil (fun W => ?_)
  go_wp2_with fail
  go_ret
  exact ⟨rfl, kk.trans' W.keeps⟩
end Go.Proofs.Ytbfdiejcbiocpaa
