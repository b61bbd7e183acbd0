/- Reading choices: the choice of three bytes (one), and the document's Read. -/
import Derived.Test.YtbfdiejcbiocpaaCa
import Derived.Deep.RegionHeld3
import Derived.Laws.BitsLemmas
import Derived.WalkSpells
namespace Go.Proofs.Ytbfdiejcbiocpaa
open Go.RowKit
set_option linter.unusedVariables false
set_option linter.unusedSimpArgs false

/-- The byte at a place. -/
def bt (s : ByteArray) (i : Nat) : UInt8 := s.data.toList.getD i 0
theorem bt_eq (s : ByteArray) (i : Nat) (h : i < s.size) : s[i] = bt s i := by
  have h' : i < s.data.toList.length := by simpa using h
  rw [bt, List.getD, List.getElem?_eq_getElem h']
  rfl

theorem or_join (a b : Int) (ha : 0 ≤ a) (ha' : a < 256) (hb : 0 ≤ b) (hb' : b < 256) : bits .or .i64 (a * 256) b = a * 256 + b :=
  bits_join .i64 62 (by decide) (fun n h1 h2 => by rw [IntKind.wrap_i64]; have : (2 : Int) ^ 62 = 4611686018427387904 := by decide
                                                   omega) 8 (a * 256) b (by omega) (by have : (2 : Int) ^ 8 = 256 := by decide
                                                                                       omega) (by have : (2 : Int) ^ 62 = 4611686018427387904 := by decide
                                                                                                  omega) hb (by have : (2 : Int) ^ 8 = 256 := by decide
                                                                                                                omega) (by have : (2 : Int) ^ 62 = 4611686018427387904 := by decide
                                                                                                                           omega)

theorem p_one_keeps {w w' : World} (h : Keeps (fun _ => False) w w') : Keeps (fun _ => False) w w' := h

set_option maxHeartbeats 16000000 in
set_option maxRecDepth 100000 in
theorem p_one (s : ByteArray) (w : World) (hs : s.size = 3) :
    Calls Try.prog 21 #[.string s] w fun e w' => e = .returned (chV (mk3 (bt s 0) (bt s 1) (bt s 2))) ∧ Keeps (fun _ => False) w w' := by
  have h0 : 0 < s.size := by omega
  have h1 : 1 < s.size := by omega
  have h2 : 2 < s.size := by omega
  have e0 := bt_eq s 0 h0
  have e1 := bt_eq s 1 h1
  have e2 := bt_eq s 2 h2
  have b1 : ((bt s 0).toNat : Int) < 256 := by have := (bt s 0).toNat_lt; omega
  have b2 : ((bt s 1).toNat : Int) < 256 := by have := (bt s 1).toNat_lt; omega
  have b3 : ((bt s 2).toNat : Int) < 256 := by have := (bt s 2).toNat_lt; omega
  have z1 : (1 : Int) < (s.size : Int) := by omega
  have z2 : (2 : Int) < (s.size : Int) := by omega
  have hor := or_join (bt s 1).toNat (bt s 2).toNat (by omega) b2 (by omega) b3
  clear hs
  generalize bt s 0 = x0 at *
  generalize bt s 1 = x1 at *
  generalize bt s 2 = x2 at *
  by_cases hk : x0.toNat = 1
  · have hk1 : ((x0.toNat : Int) == 1) = true := by simp; omega
    have hm : mk3 x0 x1 x2 = ⟨1, 256 * (x1.toNat : Int) + x2.toNat, 0⟩ := by rw [mk3, if_pos hk]
    rw [hm]
    have hx : (256 * (x1.toNat : Int) + x2.toNat) = (x1.toNat : Int) * 256 + x2.toNat := by omega
    rw [hx]
    clear hm hx
    have hk1n : (x0.toNat : Int) = 1 := by omega
    clear hk
    have HK := Lib.hid hk1n
    clear hk1n
    go_enter Try.func21, Try.ntmps21
    go_wp2_with fail
    go_region_held3 (fun _ => True) (trivial) (fail)
    all_goals
      go_wp2_with fail
      exact bodyPost_ret (v := .agg #[.int .i64 1, .int .i64 ((x1.toNat : Int) * 256 + x2.toNat), .int .i64 0]) (by simp [results, Try.results21, go_sem, HK.out]) rfl ⟨rfl, p_one_keeps (by repeat (first | exact Keeps.refl _ _ | apply Keeps.alloc | apply Keeps.drew))⟩
  · have hk1 : ((x0.toNat : Int) == 1) = false := by simp; omega
    have hm : mk3 x0 x1 x2 = ⟨x0.toNat, x1.toNat, x2.toNat⟩ := by rw [mk3, if_neg hk]
    rw [hm]
    clear hm hk
    go_enter Try.func21, Try.ntmps21
    go_wp2_with fail
    go_region_held3 (fun _ => True) (trivial) (fail)
    all_goals
      go_wp2_with fail
      exact bodyPost_ret (v := .agg #[.int .i64 x0.toNat, .int .i64 x1.toNat, .int .i64 x2.toNat]) (by simp [results, Try.results21, go_sem]) rfl ⟨rfl, p_one_keeps (by repeat (first | exact Keeps.refl _ _ | apply Keeps.alloc | apply Keeps.drew))⟩
end Go.Proofs.Ytbfdiejcbiocpaa
