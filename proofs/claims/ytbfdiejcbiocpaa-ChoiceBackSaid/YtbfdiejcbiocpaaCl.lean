/- ChoiceReads: the walk. -/
import Derived.Test.YtbfdiejcbiocpaaCv
import Derived.Test.YtbfdiejcbiocpaaCx
import Derived.Test.YtbfdiejcbiocpaaCz
namespace Go.Proofs.Ytbfdiejcbiocpaa
open Go.RowKit Go.Shelf
set_option linter.unusedVariables false
set_option linter.unusedSimpArgs false

theorem readL_small (L : List UInt8) (at_ : Int) : (readL L at_).length ≤ 1000000 := by
  unfold readL
  split
  · rename_i h
    rw [chsAt_len]
    unfold readE at h
    split at h
    · omega
    split at h
    · omega
    split at h
    · omega
    · omega
  · simp

set_option maxHeartbeats 2000000 in
set_option maxRecDepth 100000 in
theorem l_reads (s : ByteArray) (at_ : Int) (w : World) (hat : -9223372036854775808 ≤ at_ ∧ at_ ≤ 9223372036854775807) :
    Calls Try.prog 4 #[.string s, .int .i64 at_] w fun e w' => e = .returned (.bool true) ∧ Keeps (fun _ => False) w w' := by
  by_cases hl : 1000 < s.size
  · have hl' : (1000 : Int) < s.size := by omega
    go_enter Try.func4, Try.ntmps4
    go_wp2_with fail
    refine (p_alive w).mono ?_
    rintro e w1 ⟨rfl, k1⟩
    go_wp2_with fail
    go_ret
    exact ⟨rfl, k1⟩
  · have hl' : ¬ (1000 : Int) < s.size := by omega
    go_enter Try.func4, Try.ntmps4
    go_wp2_with fail
    refine (p_read s at_ w (by omega) hat).mono ?_
    rintro e w1 ⟨v, rfl, hv, k1⟩
    go_wp2_with fail
    refine (r_read s at_ w1 (by omega) hat).mono ?_
    rintro e w2 ⟨u, rfl, hu, k2⟩
    have hsm := readL_small s.data.toList at_
    generalize readL s.data.toList at_ = cs at *
    generalize readTo s.data.toList at_ = T at *
    generalize readE s.data.toList at_ = E at *
    have hv2 := hv.keeps k2 (fun _ _ _ x => x)
    have HV := Lib.hid hv2
    have HU := Lib.hid hu
    clear hv hu hv2
    go_wp2_with fail
    refine (back_r v cs _ _ HV.out hsm).mono ?_
    rintro e w3 ⟨x, rfl, hx, k3⟩
    go_wp2_with fail
    refine (r_same x u cs _ _ _ hx (HU.out.keeps k3 (fun _ _ _ x => x)) hsm).mono ?_
    rintro e w4 ⟨rfl, k, rfl⟩
    go_wp2_with fail
    refine (p_alive _).mono ?_
    rintro e w5 ⟨rfl, k5⟩
    go_wp2_with fail
    go_ret
    exact ⟨rfl, (((k1.trans' k2).trans' k3).drewN k).trans' k5⟩
end Go.Proofs.Ytbfdiejcbiocpaa
