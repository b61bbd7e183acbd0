/- Sets of ids: the program's Next, by its contract. -/
import Derived.Test.YtlfccifibhcacaaDoorBp
import Derived.Test.YtlfccifibhcacaaDoorKr
import Derived.Test.YtlfccifibhcacaaDoorChecked
import Derived.Shelf.Spec.TrailingZeros
import Derived.WalkSpells
import Derived.Deep.LoopGhost
import Derived.Deep.OwnRows
namespace Go.Proofs.YtlfccifibhcacaaDoor
open Go.RowKit Go.Shelf
set_option linter.unusedVariables false
set_option linter.unusedSimpArgs false

abbrev setV (W : Nat → Nat) : Value := .agg #[.int .u64 (W 0), .int .u64 (W 1), .int .u64 (W 2), .int .u64 (W 3)]
/-- The library's table lies in its variable. -/
abbrev Tab (w : World) : Prop := TabAt 0 Lib.deBruijn64tab w
theorem Tab.keeps {w w' : World} (h : Tab w) (k : Keeps (fun _ => False) w w') : Tab w' := fun j hj => by
  have h1 := h j hj
  exact (k.cell (p := ⟨0, j, none⟩) (World.block_lt_of_cell? w _ h1) (fun x => x)).trans h1

set_option maxHeartbeats 1000000 in
theorem tz_core (x k idx : Nat) (w : World) (hx0 : ((x : Int) == 0) = false)
    (key : IntKind.u64.wrap (bits BinOp.and IntKind.u64 (x : Int) (IntKind.u64.wrap (-(x : Int))) * 285870213051353865) / 288230376151711744 = (idx : Int))
    (hi : idx < 64) (hk : k < 64) (hcell : w.cell? ⟨0, idx, none⟩ = some (.int .u8 k)) :
    Calls Tryd.prog 16 #[.int .u64 x] w fun e w' => e = .returned (.int .i64 k) ∧ w' = w := by
  go_enter Tryd.func16, Tryd.ntmps16
  go_wp2_with (simp only [key])
  go_ret
  exact ⟨rfl, rfl⟩

theorem tz (x : Nat) (h0 : x ≠ 0) (hx : x < 18446744073709551616) (w : World) (hT : Tab w) :
    Calls Tryd.prog 16 #[.int .u64 x] w fun e w' => e = .returned (.int .i64 (Lib.ctz 64 x)) ∧ w' = w := by
  obtain ⟨hlow, hk⟩ := Lib.lowest_bit 64 x h0 hx
  obtain ⟨hi, htab⟩ := Lib.deBruijn64_at _ hk
  have hcell := hT _ hi
  rw [htab] at hcell
  exact tz_core x _ _ w (by simp; omega) (tz64_key x _ hx h0 hlow) hi hk hcell

def nextV (o : Option Nat) : Value := match o with | some i => .tuple #[.int .i64 i, .bool true] | none => .tuple #[.int .i64 0, .bool false]

set_option maxHeartbeats 4000000 in
theorem p_next (W : Nat → Nat) (hW : W64 W) (F : Nat) (w : World) (hT : Tab w) (hF2 : F ≤ 256) :
    Calls Tryd.prog 9 #[setV W, .int .i64 F] w fun e w' => e = .returned (nextV (nxt W F)) ∧ Keeps (fun _ => False) w w' := by
  have h0 : ¬ ((F : Int) < 0) := by omega
  have hblk := heap_alloc_new w (.cells #[.int .u64 (W 0), .int .u64 (W 1), .int .u64 (W 2), .int .u64 (W 3)] 26)
  have k0 : Keeps (fun _ => False) w (w.alloc (.cells #[.int .u64 (W 0), .int .u64 (W 1), .int .u64 (W 2), .int .u64 (W 3)] 26)) := (Keeps.refl _ _).alloc _
  go_enter Tryd.func9, Tryd.ntmps9
  go_wp2_with fail
  generalize (w.alloc (.cells #[.int .u64 (W 0), .int .u64 (W 1), .int .u64 (W 2), .int .u64 (W 3)] 26)) = w0 at *
  go_loopg [6] (4 - F / 64) (fun m i wr => ∃ k : Nat, i = .int .i64 k ∧ k + m = 4 ∧ F / 64 ≤ k ∧ Dry W F k ∧ wr = w0)
  case atStart => exact ⟨F / 64, by simp, by omega, Nat.le_refl _, fun j h1 h2 => by omega, rfl⟩
  case round =>
    obtain ⟨k, rfl, hkm, hfk, hdry, rfl⟩ := hrel
    have HKM := Lib.hid hkm
    have HFK := Lib.hid hfk
    have HD := Lib.hid hdry
    have hk4 : k ≤ 4 := by omega
    clear hkm hfk hdry
    by_cases hk : k < 4
    · have hk' : (k : Int) < 4 := by omega
      have hcell : wr.cell? ⟨w.heap.size, k, none⟩ = some (.int .u64 (W k)) := by
        have : k = 0 ∨ k = 1 ∨ k = 2 ∨ k = 3 := by omega
        rcases this with rfl | rfl | rfl | rfl
        · exact (blkcell hblk 0).trans rfl
        · exact (blkcell hblk 1).trans rfl
        · exact (blkcell hblk 2).trans rfl
        · exact (blkcell hblk 3).trans rfl
      by_cases hkf : k = F / 64
      · have hkf1 : (F : Int) / 64 = (k : Int) := by omega
        have HKF := Lib.hid hkf
        clear hkf
        obtain ⟨X, hX⟩ : ∃ X : Nat, X = mw W F k := ⟨_, rfl⟩
        have hX2 := mw_lt hW F k
        rw [← hX] at hX2
        have hmw : IntKind.u64.wrap ((W k : Int) / 2 ^ (F % 64) * 2 ^ (F % 64)) = (X : Int) := by
          have e : (X : Int) = (W k : Int) / 2 ^ (F % 64) * 2 ^ (F % 64) := by rw [hX, mw, if_pos HKF.out]; push_cast; rfl
          rw [← e, IntKind.wrap_u64]
          omega
        by_cases hz : X = 0
        · have hs := Lib.hid (dry_succ HD.out (by rw [← hX]; exact hz))
          have hzb : ((X : Int) != 0) = false := by simp [hz]
          clear hX HD hz
          go_wp2_with fail
          have hkm := HKM.out
          go_roundg (gk - 1)
          case measure => omega
          case rel => exact ⟨k + 1, by go_num, by omega, by have := HFK.out; omega, hs.out, rfl⟩
        · have hn := Lib.hid (dry_hit hW HFK.out hk HD.out (by rw [← hX]; exact hz))
          rw [← hX] at hn
          have hzb : ((X : Int) != 0) = true := by simp [hz]
          have hT' := hT.keeps k0
          have htz := tz X hz hX2 wr hT'
          have hc64 := (ctz_bit hz hX2).1
          generalize Lib.ctz 64 X = c at *
          have hci : (c : Int) < 64 := by omega
          have HTZ := Lib.hid htz
          clear hX HD hz htz
          go_wp2_with fail
          refine HTZ.out.mono ?_
          rintro e w1 ⟨rfl, rfl⟩
          go_wp2_with fail
          go_ret2
          exact ⟨by rw [hn.out]; simp [nextV], k0⟩
      · have hkf1 : ((k : Int) == (F : Int) / 64) = false := by simp; omega
        obtain ⟨X, hX⟩ : ∃ X : Nat, X = mw W F k := ⟨_, rfl⟩
        have hX2 := mw_lt hW F k
        rw [← hX] at hX2
        have hmw : (W k : Int) = (X : Int) := by rw [hX, mw, if_neg hkf]
        rw [hmw] at hcell
        clear hkf
        by_cases hz : X = 0
        · have hs := Lib.hid (dry_succ HD.out (by rw [← hX]; exact hz))
          have hzb : ((X : Int) != 0) = false := by simp [hz]
          clear hX HD hz
          go_wp2_with fail
          have hkm := HKM.out
          go_roundg (gk - 1)
          case measure => omega
          case rel => exact ⟨k + 1, by go_num, by omega, by have := HFK.out; omega, hs.out, rfl⟩
        · have hn := Lib.hid (dry_hit hW HFK.out hk HD.out (by rw [← hX]; exact hz))
          rw [← hX] at hn
          have hzb : ((X : Int) != 0) = true := by simp [hz]
          have hT' := hT.keeps k0
          have htz := tz X hz hX2 wr hT'
          have hc64 := (ctz_bit hz hX2).1
          generalize Lib.ctz 64 X = c at *
          have hci : (c : Int) < 64 := by omega
          have HTZ := Lib.hid htz
          clear hX HD hz htz
          go_wp2_with fail
          refine HTZ.out.mono ?_
          rintro e w1 ⟨rfl, rfl⟩
          go_wp2_with fail
          go_ret2
          exact ⟨by rw [hn.out]; simp [nextV], k0⟩
    · have HN := Lib.hid (dry_end HD.out (by omega))
      go_wp2_with fail
      go_ret2
      exact ⟨by rw [HN.out]; rfl, k0⟩
end Go.Proofs.YtlfccifibhcacaaDoor
