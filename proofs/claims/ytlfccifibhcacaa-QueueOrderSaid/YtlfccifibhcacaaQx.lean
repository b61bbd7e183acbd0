/- QueueOrder, the walk: what was pushed into any queue is popped in that order. -/
import Derived.Test.YtlfccifibhcacaaQo
import Derived.Test.YtlfccifibhcacaaQa
import Derived.Deep.LoopGhost
namespace Go.Proofs.Ytlfccifibhcacaa
open Go.RowKit
set_option linter.unusedVariables false
set_option linter.unusedSimpArgs false

/-- A slice of pairs of small numbers, that came in. -/
def IsPairs (w : World) (A : Option Addr) (len : Nat) (d0 d1 : Nat → Nat) : Prop :=
  0 < len → ∃ b o, A = some ⟨b, o, none⟩ ∧ b < w.heap.size ∧ ∀ i, i < len → w.cell? ⟨b, o + i * 2, none⟩ = some (.int .u8 (d0 i)) ∧ w.cell? ⟨b, o + i * 2 + 1, none⟩ = some (.int .u8 (d1 i)) ∧ d0 i < 256 ∧ d1 i < 256

set_option maxHeartbeats 2000000 in
set_option maxRecDepth 100000 in
theorem order_long (A : Option Addr) (len cap : Nat) (w : World) (h : 60 < len) :
    Calls Try.prog 6 #[.slice A len cap] w fun e w' => e = .returned (.bool true) ∧ Keeps (fun _ => False) w w' := by
  have h' : (60 : Int) < len := by omega
  go_enter Try.func6, Try.ntmps6
  go_wp2_with fail
  refine (h3_new _ _ 4 60 _ (by omega) (by omega) (by omega) (by rfl) (by rfl)).mono ?_
  rintro e w1 ⟨g, N, L, rfl, hg, hN, hL, h1, k1⟩
  go_wp2_with fail
  refine (law3_alive _).mono ?_
  rintro e w4 ⟨rfl, k4⟩
  go_wp2
  go_ret
  exact ⟨rfl, k1.trans' k4⟩

set_option maxHeartbeats 4000000 in
set_option maxRecDepth 100000 in
theorem order_walk (A : Option Addr) (len cap : Nat) (d0 d1 : Nat → Nat) (w : World) (hlen : len ≤ 60) (hA : IsPairs w A len d0 d1) :
    Calls Try.prog 6 #[.slice A len cap] w fun e w' => e = .returned (.bool true) ∧ Keeps (fun _ => False) w w' := by
  have h' : ¬ (60 : Int) < len := by omega
  go_enter Try.func6, Try.ntmps6
  go_wp2_with fail
  refine (h3_new _ _ 4 60 _ (by omega) (by omega) (by omega) (by rfl) (by rfl)).mono ?_
  rintro e w1 ⟨g, N, L, rfl, hg, hN, hL, h1, k1⟩
  replace h1 : Holds3 w1 g N L 60 4 (pushed d0 d1 0) := h1
  go_wp2_with fail
  go_loopg [36] len (fun m i wr => ∃ k : Nat, i = .int .i64 k ∧ k + m = len ∧ Holds3 wr g N L 60 4 (pushed d0 d1 k) ∧ Keeps (fun _ => False) w wr)
  case atStart => exact ⟨0, rfl, by omega, h1, k1⟩
  case round =>
    clear h1 k1
    obtain ⟨k, rfl, hkm, h1, k1⟩ := hrel
    have HKM := Lib.hid hkm
    have hkl : k ≤ len := by omega
    clear hkm
    by_cases hk : k < len
    · have hk' : (k : Int) < len := by omega
      obtain ⟨b, o, rfl, hb, hx⟩ := hA (by omega)
      obtain ⟨hx0, hx1, hd0, hd1⟩ := hx k hk
      clear hx hA
      have hx0' := (k1.cell (p := ⟨b, o + k * 2, none⟩) hb (fun x => x)).trans hx0
      have hx1' := (k1.cell (p := ⟨b, o + k * 2 + 1, none⟩) hb (fun x => x)).trans hx1
      clear hx0 hx1
      go_wp2_with fail
      refine (h3_push _ _ _ _ _ _ _ _ _ (h1.still ((Keeps.refl (fun _ => False) wr).alloc _))).mono ?_
      rintro e w2 ⟨he, h2, k2⟩
      have hpush := pushed_push d0 d1 k (by omega) ((d0 k : Int) % 4) (by simp)
      obtain rfl := ret_eq he hpush.1
      rw [hpush.2] at h2
      clear hpush he
      go_wp2
      have hkm := HKM.out
      go_roundg (gk - 1)
      case measure => omega
      case rel => exact ⟨k + 1, by go_num, by omega, h2, (k1.alloc _).trans k2 (by rintro b hb (rfl | rfl | rfl) <;> omega)⟩
    · have e : k = len := by omega
      subst e
      rw [left_start] at h1
      go_wp2_with fail
      obtain ⟨wo, hwo⟩ : ∃ wo : World, wo = wr := ⟨_, rfl⟩
      rw [← hwo] at h1 k1 ⊢
      clear hwo
      go_loopg [51] 4 (fun m i wr => ∃ q : Nat, i = .int .i64 q ∧ q + m = 4 ∧ Holds3 wr g N L 60 4 (left d0 d1 k q 0) ∧ Keeps (fun _ => False) w wr)
      case atStart => exact ⟨0, rfl, by omega, h1, k1⟩
      case round =>
        clear h1 k1
        obtain ⟨q, rfl, hqm, h1, k1⟩ := hrel
        obtain ⟨gq, rfl⟩ : ∃ gq : Nat, gq = gk := ⟨_, rfl⟩
        have HQM := Lib.hid hqm
        have hq4 : q ≤ 4 := by omega
        clear hqm
        by_cases hq : q < 4
        · have hq' : (q : Int) < 4 := by omega
          go_wp2_with fail
          obtain ⟨wp, hwp⟩ : ∃ wp : World, wp = wr := ⟨_, rfl⟩
          rw [← hwp] at h1 k1 ⊢
          clear hwp
          go_loopg [56] k (fun m i wr => ∃ j : Nat, i = .int .i64 j ∧ j + m = k ∧ Holds3 wr g N L 60 4 (left d0 d1 k q j) ∧ Keeps (fun _ => False) w wr)
          case atStart => exact ⟨0, rfl, by omega, h1, k1⟩
          case round =>
            clear h1 k1
            obtain ⟨j, rfl, hjm, h1, k1⟩ := hrel
            have HJM := Lib.hid hjm
            have hjk : j ≤ k := by omega
            clear hjm
            by_cases hj : j < k
            · have hj' : (j : Int) < k := by omega
              obtain ⟨b, o, rfl, hb, hx⟩ := hA (by omega)
              obtain ⟨hx0, hx1, hd0, hd1⟩ := hx j hj
              clear hx hA
              have hx0' := (k1.cell (p := ⟨b, o + j * 2, none⟩) hb (fun x => x)).trans hx0
              have hx1' := (k1.cell (p := ⟨b, o + j * 2 + 1, none⟩) hb (fun x => x)).trans hx1
              clear hx0 hx1
              by_cases hd : d0 j % 4 = q
              · have hne : ((d0 j : Int) % 4 != q) = false := by rw [bne_eq_false_iff_eq]; omega
                have HD := Lib.hid hd
                clear hd
                have hbx := (h1.still ((Keeps.refl (fun _ => False) wr).alloc (.cells #[.int .u8 (d0 j), .int .u8 (d1 j)] 86)))
                have hbl := heap_alloc_new wr (.cells #[.int .u8 (d0 j), .int .u8 (d1 j)] 86)
                have hlt := h1.lt
                go_wp2_with fail
                refine (h3_pop _ _ _ _ _ _ _ _ hbx).mono ?_
                rintro e w2 ⟨he, h2, k2⟩
                have hpop := left_pop d0 d1 k q j hq hj HD.out
                obtain rfl := ret_eq2 he hpop.2.1 hpop.1
                rw [hpop.2.2] at h2
                clear hpop he
                have hb2 := k2.blk hbl (by rintro (h | h | h) <;> omega)
                have cb0 : w2.cell? ⟨wr.heap.size, 1, none⟩ = some _ := (blkcell hb2 1).trans rfl
                have hne2 : ((d1 j : Int) != d1 j) = false := by simp
                go_wp2
                have hjm := HJM.out
                go_roundg (gk - 1)
                case measure => omega
                case rel => exact ⟨j + 1, by go_num, by omega, h2, (k1.alloc _).trans k2 (by rintro b hb (rfl | rfl | rfl) <;> omega)⟩
              · have hne : ((d0 j : Int) % 4 != q) = true := by rw [bne_iff_ne]; omega
                have hs := left_skip d0 d1 k q j hj hd
                rw [← hs] at h1
                clear hs
                go_wp2
                have hjm := HJM.out
                go_roundg (gk - 1)
                case measure => omega
                case rel => exact ⟨j + 1, by go_num, by omega, h1.still ((Keeps.refl _ _).alloc _), k1.alloc _⟩
            · have e : j = k := by omega
              subst e
              go_wp2_with fail
              refine (h3_pop _ _ _ _ _ _ _ _ h1).mono ?_
              rintro e w2 ⟨he, h2, k2⟩
              have hend := left_end d0 d1 j q hq
              obtain rfl := ret_eq2 he rfl hend.1
              rw [hend.2, left_next] at h2
              clear hend he
              go_wp2
              have hqm := HQM.out
              go_roundg (gq - 1)
              case measure => omega
              case rel => exact ⟨q + 1, by go_num, by omega, h2, k1.trans k2 (by rintro b hb (rfl | rfl | rfl) <;> omega)⟩
        · have e : q = 4 := by omega
          subst e
          go_wp2_with fail
          refine (h3_free _ _ _ _ _ _ _ h1).mono ?_
          rintro e w2 ⟨he, rfl⟩
          obtain rfl := ret_eq he (left_free d0 d1 k)
          go_wp2_with fail
          refine (law3_alive _).mono ?_
          rintro e w4 ⟨rfl, k4⟩
          go_wp2
          go_ret
          exact ⟨rfl, k1.trans' k4⟩
end Go.Proofs.Ytlfccifibhcacaa
