/- The document's handles (becket/becketref01) and table (becket/becketref02), by their contracts over slots. -/
import Derived.Test.YtlfccifibhcacaaAi
import Derived.Test.YtlfccifibhcacaaRf
import Derived.Deep.RegionHeld3
namespace Go.Proofs.Ytlfccifibhcacaa
open Go.RowKit
set_option linter.unusedVariables false
set_option linter.unusedSimpArgs false

/-! ### handles -/
theorem rd_fine (h : Int) (w : World) : Calls Try.prog 77 #[.int .i64 h] w fun e w' => e = .returned (.bool (fineH h)) ∧ w = w' := by
  by_cases h0 : 4096 ≤ h
  · by_cases h1 : h ≤ 268435455
    · rw [show fineH h = true by simp [fineH]; omega]
      go_enter Try.func77, Try.ntmps77
      go_wp2
      go_ret
      exact ⟨by simp [h1], rfl⟩
    · rw [show fineH h = false by simp [fineH]; omega]
      go_enter Try.func77, Try.ntmps77
      go_wp2
      go_ret
      exact ⟨by simp [h1], rfl⟩
  · rw [show fineH h = false by simp [fineH]; omega]
    go_enter Try.func77, Try.ntmps77
    go_wp2
    go_ret
    exact ⟨rfl, rfl⟩
theorem rd_slot (h : Int) (w : World) : Calls Try.prog 72 #[.int .i64 h] w fun e w' => e = .returned (.int .i64 (hS h)) ∧ w = w' := by
  by_cases hf : fineH h = true
  · have h1 : 4096 ≤ h := by simp [fineH] at hf; omega
    have h2 : h ≤ 268435455 := by simp [fineH] at hf; omega
    have e : hS h = h - 4096 * (h / 4096) := by rw [hS, if_pos hf]; omega
    have HE := Lib.hid e
    clear e
    go_enter Try.func72, Try.ntmps72
    go_wp2_with (go_at_call 77; refine (rd_fine _ _).mono ?_; rintro e w' ⟨rfl, rfl⟩; rw [hf])
    go_ret
    exact ⟨by rw [HE.out]; rfl, rfl⟩
  · rw [hS, if_neg hf]
    go_enter Try.func72, Try.ntmps72
    go_wp2_with (go_at_call 77; refine (rd_fine _ _).mono ?_; rintro e w' ⟨rfl, rfl⟩; rw [Bool.eq_false_iff.2 hf])
    go_ret
    exact ⟨rfl, rfl⟩
theorem rd_gen (h z : Int) (hz : hG h = z) (w : World) : Calls Try.prog 74 #[.int .i64 h] w fun e w' => e = .returned (.int .i64 z) ∧ ∃ m, w' = w.drewN m := by
  subst hz
  by_cases hf : fineH h = true
  · have h1 : 4096 ≤ h := by simp [fineH] at hf; omega
    have h2 : h ≤ 268435455 := by simp [fineH] at hf; omega
    rw [hG, if_pos hf]
    go_enter Try.func74, Try.ntmps74
    go_wp2_with (go_at_call 77; refine (rd_fine _ _).mono ?_; rintro e w' ⟨rfl, rfl⟩; rw [hf])
    go_ret
    exact ⟨rfl, 0, rfl⟩
  · rw [hG, if_neg hf]
    go_enter Try.func74, Try.ntmps74
    go_wp2_with (go_at_call 77; refine (rd_fine _ _).mono ?_; rintro e w' ⟨rfl, rfl⟩; rw [Bool.eq_false_iff.2 hf])
    go_ret
    exact ⟨rfl, 0, rfl⟩
theorem rd_make (s g : Int) (w : World) (h0 : 0 ≤ s) (h1 : s ≤ 4095) (h2 : 1 ≤ g) (h3 : g ≤ 65535) :
    Calls Try.prog 54 #[.int .i64 s, .int .i64 g] w fun e w' => e = .returned (.tuple #[.int .i64 (g * 4096 + s), .int .i64 0]) ∧ w = w' := by
  have a0 : ¬ s < 0 := by omega
  have a1 : ¬ 4095 < s := by omega
  have a2 : ¬ g < 1 := by omega
  have a3 : ¬ 65535 < g := by omega
  go_enter Try.func54, Try.ntmps54
  go_wp2
  go_ret2
  exact ⟨by rw [Int.mul_comm g 4096]; rfl, rfl⟩

/-! ### things in memory -/
def flatT (ts : List (Int × Int)) : List Value := ts.flatMap (fun t => [.int .i64 t.1, .int .i64 t.2])
theorem flatT_len (ts : List (Int × Int)) : (flatT ts).length = ts.length * 2 := by
  induction ts with
  | nil => rfl
  | cons t ts ih => simp [flatT] at ih ⊢; omega
theorem flatT_app (a b : List (Int × Int)) : flatT (a ++ b) = flatT a ++ flatT b := by simp [flatT]
theorem flatT_at (ts : List (Int × Int)) : ∀ j, j < ts.length → (flatT ts)[j * 2]? = some (.int .i64 (ts.getD j (0, 0)).1) ∧ (flatT ts)[j * 2 + 1]? = some (.int .i64 (ts.getD j (0, 0)).2) := by
  induction ts with
  | nil => intro j h; simp at h
  | cons t ts ih =>
    intro j h
    cases j with
    | zero => exact ⟨rfl, rfl⟩
    | succ j =>
      have := ih j (by simpa using h)
      have e : flatT (t :: ts) = .int .i64 t.1 :: .int .i64 t.2 :: flatT ts := rfl
      rw [e, show (j + 1) * 2 = j * 2 + 1 + 1 by omega]
      simpa using this
theorem flatT_one (ts : List (Int × Int)) : ∀ u ∈ flatT ts, u.oneCell' = true := by
  intro u hu
  simp only [flatT, List.mem_flatMap] at hu
  obtain ⟨t, _, h⟩ := hu
  simp at h
  rcases h with rfl | rfl <;> rfl

/-- A slice of things. -/
theorem Rds.at_T {ok : Nat → Prop} {w : World} {v : Value} {m : Nat} {ts : List (Int × Int)} (h : Rds ok w v 2 m (flatT ts)) : ts.length = m ∧ ∃ A c, v = .slice A m c ∧ m ≤ c ∧ (0 < m → ∃ b o, A = some ⟨b, o, none⟩ ∧ b < w.heap.size ∧ ∀ j, j < m → w.cell? ⟨b, o + j * 2, none⟩ = some (.int .i64 (ts.getD j (0, 0)).1) ∧ w.cell? ⟨b, o + j * 2 + 1, none⟩ = some (.int .i64 (ts.getD j (0, 0)).2)) := by
  have hlen : ts.length = m := by have := h.1; rw [flatT_len] at this; omega
  obtain ⟨hl, A, c, rfl, hmc, hA⟩ := h
  refine ⟨hlen, A, c, rfl, hmc, fun hm => ?_⟩
  obtain ⟨b, o, rfl, hok, hlt, hc⟩ := hA.resolve_left (by omega)
  refine ⟨b, o, rfl, hlt, fun j hj => ?_⟩
  obtain ⟨h1, h2⟩ := flatT_at ts j (by omega)
  exact ⟨hc _ _ h1, hc _ _ h2⟩

/-- The document's table, as a value. -/
def RT (ok : Nat → Prop) (w : World) (v : Value) (last : Int) (sl : List ASlot) : Prop :=
  ∃ vg vt, v = .agg #[.int .i64 last, vg, vt] ∧ Rds ok w vg 1 sl.length (ints (gens sl)) ∧ Rds ok w vt 2 (things sl).length (flatT (things sl))
theorem RT.keeps {ok : Nat → Prop} {w w' : World} {v : Value} {last : Int} {sl : List ASlot} {S : Nat → Prop} (h : RT ok w v last sl) (hk : Keeps S w w') (hS : ∀ k, ok k → k < w.heap.size → ¬ S k) : RT ok w' v last sl := by
  obtain ⟨vg, vt, e, h1, h2⟩ := h
  exact ⟨vg, vt, e, h1.keeps hk hS, h2.keeps hk hS⟩
theorem RT.still {ok : Nat → Prop} {w w' : World} {v : Value} {last : Int} {sl : List ASlot} (h : RT ok w v last sl) (hk : Keeps (fun _ => False) w w') : RT ok w' v last sl := h.keeps hk (fun _ _ _ x => x)
theorem RT.mono {ok ok' : Nat → Prop} {w : World} {v : Value} {last : Int} {sl : List ASlot} (h : RT ok w v last sl) (hk : ∀ k, ok k → k < w.heap.size → ok' k) : RT ok' w v last sl := by
  obtain ⟨vg, vt, e, h1, h2⟩ := h
  exact ⟨vg, vt, e, h1.mono hk, h2.mono hk⟩
theorem RT.form {ok : Nat → Prop} {w : World} {v : Value} {last : Int} {sl : List ASlot} (h : RT ok w v last sl) : ∃ Ag cg At ct, v = .agg #[.int .i64 last, .slice Ag sl.length cg, .slice At (things sl).length ct] ∧ Rds ok w (.slice Ag sl.length cg) 1 sl.length (ints (gens sl)) ∧ Rds ok w (.slice At (things sl).length ct) 2 (things sl).length (flatT (things sl)) := by
  obtain ⟨vg, vt, e, h1, h2⟩ := h
  obtain ⟨Ag, cg, rfl⟩ := h1.slice_
  obtain ⟨At, ct, rfl⟩ := h2.slice_
  exact ⟨Ag, cg, At, ct, e, h1, h2⟩

theorem findT_at {ts : List (Int × Int)} {s : Int} {j : Nat} (hj : j < ts.length) (he : (ts.getD j (0, 0)).1 = s) (hno : ∀ i, i < j → (ts.getD i (0, 0)).1 ≠ s) : findT ts s = j := by
  have g : ∀ i (h : i < ts.length), ts.getD i (0, 0) = ts[i] := fun i h => by simp [List.getD, List.getElem?_eq_getElem h]
  have e : ts.findIdx (fun t => t.1 == s) = j := by
    refine (List.findIdx_eq hj).2 ⟨by rw [← g j hj]; simpa using he, fun i hi => ?_⟩
    rw [← g i (by omega)]
    simpa using hno i hi
  rw [findT, e, if_pos hj]
theorem findT_none {ts : List (Int × Int)} {s : Int} (hno : ∀ i, i < ts.length → (ts.getD i (0, 0)).1 ≠ s) : findT ts s = -1 := by
  rw [findT, if_neg]
  intro h
  have h1 := List.findIdx_getElem (w := h)
  have := hno _ h
  rw [List.getD, List.getElem?_eq_getElem h] at this
  simp at h1
  exact this h1

set_option maxHeartbeats 800000 in
theorem rt_find (last s : Int) (Ag : Option Addr) (ng cg : Nat) (v : Value) (ts : List (Int × Int)) (ok : Nat → Prop) (w : World) (h : Rds ok w v 2 ts.length (flatT ts)) (hs : ts.length ≤ 30) :
    Calls Try.prog 73 #[.agg #[.int .i64 last, .slice Ag ng cg, v], .int .i64 s] w fun e w' => e = .returned (.int .i64 (findT ts s)) ∧ Keeps (fun _ => False) w w' := by
  obtain ⟨_, A, c, rfl, hmc, hA⟩ := h.at_T
  have HA := Lib.hid hA
  clear hA h
  have hblk := heap_alloc_new w (.cells #[.int .i64 last, .slice Ag ng cg, .slice A ts.length c] 54)
  have k0 : Keeps (fun _ => False) w (w.alloc (.cells #[.int .i64 last, .slice Ag ng cg, .slice A ts.length c] 54)) := (Keeps.refl _ _).alloc _
  generalize hw0 : w.alloc (.cells #[.int .i64 last, .slice Ag ng cg, .slice A ts.length c] 54) = w0 at *
  go_enter Try.func73, Try.ntmps73
  go_wp2_with fail
  clear hw0
  have c2 : w0.cell? ⟨w.heap.size, 2, none⟩ = some _ := (blkcell hblk 2).trans rfl
  clear hblk
  go_loopg [5] ts.length (fun m i wr => ∃ j : Nat, i = .int .i64 j ∧ j + m = ts.length ∧ (∀ i, i < j → (ts.getD i (0, 0)).1 ≠ s) ∧ wr = w0)
  case atStart => exact ⟨0, rfl, by omega, fun i hi => by omega, rfl⟩
  case round =>
    obtain ⟨j, rfl, hjm, hno, hwr⟩ := hrel
    obtain rfl := hwr.symm
    clear hwr
    have HJM := Lib.hid hjm
    have HNO := Lib.hid hno
    have hjl : j ≤ ts.length := by omega
    clear hjm hno
    by_cases hj : j < ts.length
    · have hj' : (j : Int) < ts.length := by omega
      obtain ⟨b, o, rfl, hb, hc⟩ := HA.out (by omega)
      obtain ⟨hc1, _⟩ := hc j hj
      clear hc
      have hc1' := (k0.cell (p := ⟨b, o + j * 2, none⟩) hb (fun x => x)).trans hc1
      clear hc1
      by_cases he : (ts.getD j (0, 0)).1 = s
      · have hb1 : ((ts.getD j (0, 0)).1 == s) = true := by simpa using he
        have HF := Lib.hid (findT_at hj he HNO.out)
        clear he
        generalize (ts.getD j (0, 0)).1 = y at *
        go_wp2_with fail
        go_ret
        exact ⟨by rw [HF.out]; rfl, k0⟩
      · have hb1 : ((ts.getD j (0, 0)).1 == s) = false := by simpa using he
        have HE := Lib.hid he
        clear he
        obtain ⟨y, hy⟩ : ∃ y, y = (ts.getD j (0, 0)).1 := ⟨_, rfl⟩
        rw [← hy] at hb1 hc1'
        clear hy
        go_wp2_with fail
        have hjm := HJM.out
        go_roundg (gk - 1)
        case measure => omega
        case rel => exact ⟨j + 1, by go_num, by omega, fun i hi => by
          by_cases e : i = j
          · subst e; exact HE.out
          · exact HNO.out i (by omega), rfl⟩
    · have e : j = ts.length := by omega
      have HF := Lib.hid (findT_none (ts := ts) (s := s) (by rw [← e]; exact HNO.out))
      go_wp2_with fail
      go_ret
      exact ⟨by rw [HF.out]; rfl, k0⟩
end Go.Proofs.Ytlfccifibhcacaa
