/- Reading choices: Read of the document, whole. -/
import Derived.Test.YtbfdiejcbiocpaaCu
namespace Go.Proofs.Ytbfdiejcbiocpaa
open Go.RowKit Go.Shelf
set_option linter.unusedVariables false
set_option linter.unusedSimpArgs false

set_option maxHeartbeats 4000000 in
set_option maxRecDepth 100000 in
theorem r_read (s : ByteArray) (at_ : Int) (w : World) (hs : s.size ≤ 8000) (hat : -9223372036854775808 ≤ at_ ∧ at_ ≤ 9223372036854775807) :
    Calls Try.prog 15 #[.string s, .int .i64 at_] w fun e w' => RdFull w s.data.toList at_ e w' := by
  by_cases h0 : at_ < 0
  · have hE : readE s.data.toList at_ = 8 := by unfold readE; rw [if_pos (.inl h0)]
    go_enter Try.func15, Try.ntmps15
    go_wp2_with fail
    go_ret3
    exact RdFull.bad (by decide) hE (Keeps.refl _ _)
  by_cases h1 : (s.size : Int) < at_
  · have hE : readE s.data.toList at_ = 8 := by unfold readE; rw [if_pos (.inr (by rw [bytes_len]; exact h1))]
    have h0' : decide (at_ < 0) = false := by simp; omega
    go_enter Try.func15, Try.ntmps15
    go_wp2_with fail
    go_ret3
    exact RdFull.bad (by decide) hE (Keeps.refl _ _)
  obtain ⟨p, rfl⟩ : ∃ p : Nat, at_ = p := ⟨at_.toNat, by omega⟩
  by_cases h2 : (s.size : Int) - p < 2
  · have hE : readE s.data.toList p = 4 := by unfold readE; rw [if_neg (by rw [bytes_len]; omega), if_pos (by rw [bytes_len]; exact h2)]
    have h0' : decide ((p : Int) < 0) = false := by simp
    go_enter Try.func15, Try.ntmps15
    go_wp2_with fail
    go_ret3
    exact RdFull.bad (by decide) hE (Keeps.refl _ _)
  have h3 : p < s.size := by omega
  have h4 : p + 1 < s.size := by omega
  have e0 := bt_eq s p h3
  have e1 := bt_eq s (p + 1) h4
  have hM : manyAt s.data.toList p = 256 * (bt s p).toNat + (bt s (p + 1)).toNat := rfl
  by_cases h5 : 2000 < manyAt s.data.toList p
  · have hE : readE s.data.toList p = 5 := by unfold readE; rw [if_neg (by rw [bytes_len]; omega), if_neg (by rw [bytes_len]; omega), Int.toNat_natCast, if_pos h5]
    have hx0 : s[p].toNat = (bt s p).toNat := by rw [e0]
    have hx1 : s[p + 1].toNat = (bt s (p + 1)).toNat := by rw [e1]
    rw [hM] at h5
    have b1 : ((bt s p).toNat : Int) < 256 := by have := (bt s p).toNat_lt; omega
    have b2 : ((bt s (p + 1)).toNat : Int) < 256 := by have := (bt s (p + 1)).toNat_lt; omega
    have h0' : decide ((p : Int) < 0) = false := by simp
    generalize (bt s p).toNat = x0 at *
    generalize (bt s (p + 1)).toNat = x1 at *
    have z1 : (0 : Int) ≤ (p : Int) + 1 := by omega
    have z2 : (p : Int) + 1 < (s.size : Int) := by omega
    have z3 : ((p : Int) + 1).toNat = p + 1 := by omega
    have HE := Lib.hid hE
    obtain ⟨M, hMM⟩ : ∃ M : Nat, 256 * x0 + x1 = M := ⟨_, rfl⟩
    have hMI : 256 * (x0 : Int) + x1 = M := by omega
    have h6 : (2000 : Int) < M := by omega
    clear hE hM e0 e1
    go_enter Try.func15, Try.ntmps15
    go_wp2_with fail
    refine wp_qall (w0 := w) ⟨0, rfl⟩ (by kernel_rfl) (by kernel_rfl) ?_
    repeat go_big_quiet_step (fail)
    refine wpQuiet_nil (fun nq => ?_)
    have k4 := (Keeps.refl (fun _ => False) w).drewN nq
    generalize w.drewN nq = w4 at *
    go_wp2_with fail
    go_ret3
    exact RdFull.bad (by decide) HE.out k4
  · refine (r_read_main s p w hs (by omega) _ _ rfl rfl (manyAt s.data.toList p) (by rw [hM, e0, e1]) (by omega)).mono fun e w' h => ?_
    exact RdFull.main (by rw [bytes_len]; omega) (by rw [bytes_len]; omega) h5 h
end Go.Proofs.Ytbfdiejcbiocpaa
