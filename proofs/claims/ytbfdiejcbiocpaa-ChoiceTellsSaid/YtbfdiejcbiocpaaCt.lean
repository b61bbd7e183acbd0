/- Reading choices: Read of the program, whole. -/
import Derived.Test.YtbfdiejcbiocpaaCr
namespace Go.Proofs.Ytbfdiejcbiocpaa
open Go.RowKit Go.Shelf
set_option linter.unusedVariables false
set_option linter.unusedSimpArgs false

/-- What Read gives. -/
def RdFull (w : World) (L : List UInt8) (at_ : Int) (e : Ending) (w' : World) : Prop :=
  ∃ v, e = .returned (.tuple #[v, .int .i64 (readTo L at_), .int .i64 (readE L at_)]) ∧
    Rds (fun b => w.heap.size ≤ b) w' v 3 (readL L at_).length (flatC (readL L at_)) ∧ Keeps (fun _ => False) w w'
theorem RdFull.bad {w w' : World} {L : List UInt8} {at_ : Int} {e : Int} (he : e ≠ 0) (hE : readE L at_ = e) (hk : Keeps (fun _ => False) w w') :
    RdFull w L at_ (.returned (.tuple #[.slice none 0 0, .int .i64 0, .int .i64 e])) w' := by
  subst hE
  refine ⟨.slice none 0 0, ?_, ?_, hk⟩
  · rw [readTo, if_neg he]
  · rw [readL, if_neg he]; exact Rds.nil_ _ _ _ _ _
theorem RdFull.main {w w' : World} {L : List UInt8} {p : Nat} {e : Ending} (h0 : ¬ ((p : Int) < 0 ∨ (L.length : Int) < p)) (h1 : ¬ ((L.length : Int) - p < 2)) (h2 : ¬ 2000 < manyAt L p) (h : RdPost w L (p + 2) (manyAt L p) e w') :
    RdFull w L p e w' := by
  obtain ⟨v, rfl, hr, hk⟩ := h
  have hE : readE L p = bodyE L (p + 2) (manyAt L p) := by
    unfold readE
    rw [if_neg h0, if_neg h1, Int.toNat_natCast, if_neg h2]
  refine ⟨v, ?_, ?_, hk⟩
  · rw [readTo, hE, Int.toNat_natCast]
    have : ((p + 2 : Nat) : Int) + (manyAt L p : Int) * 3 = (p : Int) + 2 + (manyAt L p : Int) * 3 := by omega
    rw [this]
  · rw [readL, hE, Int.toNat_natCast]
    exact hr
theorem bytes_len (s : ByteArray) : s.data.toList.length = s.size := by simp

abbrev ew (w : World) (e : Int) : World := ((w.alloc (.cells #[.slice none 0 0] 29)).alloc (.cells #[.int .i64 0] 3)).alloc (.cells #[.int .i64 e] 26)
theorem ew_res (w : World) (e : Int) : Res3 w (ew w e) e := by
  have b1 := blkalloc (blkalloc (heap_alloc_new w (.cells #[.slice none 0 0] 29)) (.cells #[.int .i64 0] 3)) (.cells #[.int .i64 e] 26)
  have b2 : (((w.alloc (.cells #[.slice none 0 0] 29)).alloc (.cells #[.int .i64 0] 3)).alloc (.cells #[.int .i64 e] 26)).heap[w.heap.size + 1]? = some (.cells #[.int .i64 0] 3 (0, 0)) := by
    have := blkalloc (heap_alloc_new (w.alloc (.cells #[.slice none 0 0] 29)) (.cells #[.int .i64 0] 3)) (.cells #[.int .i64 e] 26)
    rwa [World.size_alloc] at this
  have b3 : (((w.alloc (.cells #[.slice none 0 0] 29)).alloc (.cells #[.int .i64 0] 3)).alloc (.cells #[.int .i64 e] 26)).heap[w.heap.size + 1 + 1]? = some (.cells #[.int .i64 e] 26 (0, 0)) := by
    have := heap_alloc_new ((w.alloc (.cells #[.slice none 0 0] 29)).alloc (.cells #[.int .i64 0] 3)) (.cells #[.int .i64 e] 26)
    rwa [World.size_alloc, World.size_alloc] at this
  exact ⟨b1, b2, b3⟩
theorem ew_keeps (w : World) (e : Int) : Keeps (fun _ => False) w (ew w e) := (((Keeps.refl _ _).alloc _).alloc _).alloc _

set_option maxHeartbeats 4000000 in
set_option maxRecDepth 100000 in
theorem p_read (s : ByteArray) (at_ : Int) (w : World) (hs : s.size ≤ 8000) (hat : -9223372036854775808 ≤ at_ ∧ at_ ≤ 9223372036854775807) :
    Calls Try.prog 14 #[.string s, .int .i64 at_] w fun e w' => RdFull w s.data.toList at_ e w' := by
  by_cases h0 : at_ < 0
  · have hE : readE s.data.toList at_ = 8 := by unfold readE; rw [if_pos (.inl h0)]
    go_enter Try.func14, Try.ntmps14
    go_wp2_with fail
    have hq := ew_res w 8
    exact bodyPost_ret (res14 _ _ _ _ _ _ _ _ rfl rfl rfl hq.1.cell hq.2.1.cell hq.2.2.cell) rfl (RdFull.bad (by decide) hE (ew_keeps w 8))
  by_cases h1 : (s.size : Int) < at_
  · have hE : readE s.data.toList at_ = 8 := by unfold readE; rw [if_pos (.inr (by rw [bytes_len]; exact h1))]
    have h0' : decide (at_ < 0) = false := by simp; omega
    go_enter Try.func14, Try.ntmps14
    go_wp2_with fail
    have hq := ew_res w 8
    exact bodyPost_ret (res14 _ _ _ _ _ _ _ _ rfl rfl rfl hq.1.cell hq.2.1.cell hq.2.2.cell) rfl (RdFull.bad (by decide) hE (ew_keeps w 8))
  obtain ⟨p, rfl⟩ : ∃ p : Nat, at_ = p := ⟨at_.toNat, by omega⟩
  by_cases h2 : (s.size : Int) - p < 2
  · have hE : readE s.data.toList p = 4 := by unfold readE; rw [if_neg (by rw [bytes_len]; omega), if_pos (by rw [bytes_len]; exact h2)]
    have h0' : decide ((p : Int) < 0) = false := by simp
    go_enter Try.func14, Try.ntmps14
    go_wp2_with fail
    have hq := ew_res w 4
    exact bodyPost_ret (res14 _ _ _ _ _ _ _ _ rfl rfl rfl hq.1.cell hq.2.1.cell hq.2.2.cell) rfl (RdFull.bad (by decide) hE (ew_keeps w 4))
  have h3 : p < s.size := by omega
  have h4 : p + 1 < s.size := by omega
  have e0 := bt_eq s p h3
  have e1 := bt_eq s (p + 1) h4
  have hM : manyAt s.data.toList p = 256 * (bt s p).toNat + (bt s (p + 1)).toNat := rfl
  by_cases h5 : 2000 < manyAt s.data.toList p
  · have hE : readE s.data.toList p = 5 := by unfold readE; rw [if_neg (by rw [bytes_len]; omega), if_neg (by rw [bytes_len]; omega), Int.toNat_natCast, if_pos h5]
    have hx0 : s[p].toNat = (bt s p).toNat := by rw [e0]
    have hx1 : s[p + 1].toNat = (bt s (p + 1)).toNat := by rw [e1]
    rw [hM] at h5
    have b1 : ((bt s p).toNat : Int) < 256 := by have := (bt s p).toNat_lt; omega
    have b2 : ((bt s (p + 1)).toNat : Int) < 256 := by have := (bt s (p + 1)).toNat_lt; omega
    generalize (bt s p).toNat = x0 at *
    generalize (bt s (p + 1)).toNat = x1 at *
    have z1 : (0 : Int) ≤ (p : Int) + 1 := by omega
    have z2 : (p : Int) + 1 < (s.size : Int) := by omega
    have z3 : ((p : Int) + 1).toNat = p + 1 := by omega
    have hor := or_join' x0 x1 (by omega) b1 (by omega) b2
    have HE := Lib.hid hE
    have h6 : (2000 : Int) < (x0 : Int) * 256 + x1 := by omega
    clear hE hM e0 e1
    go_enter Try.func14, Try.ntmps14
    go_wp2_with fail
    have hq := ew_res w 0
    have hk := ew_keeps w 0
    unfold ew at hq hk
    generalize (((w.alloc (.cells #[.slice none 0 0] 29)).alloc (.cells #[.int .i64 0] 3)).alloc (.cells #[.int .i64 0] 26)) = w3 at *
    refine wp_qall (w0 := w3) ⟨0, rfl⟩ (by kernel_rfl) (by kernel_rfl) ?_
    repeat go_big_quiet_step (fail)
    refine wpQuiet_nil (fun nq => ?_)
    have hq' : Res3 w (w3.drewN nq) 0 := hq
    have hk' := hk.drewN nq
    generalize w3.drewN nq = w4 at *
    have q1 := hq'.1.cell
    have q2 := hq'.1.frozen
    have q3 := hq'.2.1.cell
    have q4 := hq'.2.1.frozen
    have q5 := hq'.2.2.cell
    have q6 := hq'.2.2.frozen
    go_wp2_with fail
    have hR := st3_boxes hq' (.slice none 0 0) (.int .i64 0) (.int .i64 5)
    exact bodyPost_ret (res14 _ _ _ _ _ _ _ _ rfl rfl rfl hR.1.cell hR.2.1.cell hR.2.2.cell) rfl (RdFull.bad (by decide) HE.out (Keeps.below (st3_below _ _ _ (hk'.toBelow (fun _ h => h.elim) (Nat.le_refl _))) _))
  · refine (p_read_main s p w hs (by omega) _ _ rfl rfl (manyAt s.data.toList p) (by rw [hM, e0, e1]) (by omega)).mono fun e w' h => ?_
    exact RdFull.main (by rw [bytes_len]; omega) (by rw [bytes_len]; omega) h5 h
end Go.Proofs.Ytbfdiejcbiocpaa
