/- The document's table (becket/becketref02): at, Get, open, Free, Handles, New, by their contracts over slots. -/
import Derived.Test.YtlfccifibhcacaaAr
namespace Go.Proofs.Ytlfccifibhcacaa
open Go.RowKit
set_option linter.unusedVariables false
set_option linter.unusedSimpArgs false

def rAtI (sl : List ASlot) (h : Int) : Int := if atE sl h = 0 then (cnt sl (hS h).toNat : Nat) else 0

theorem gens_at {sl : List ASlot} {i : Nat} (hi : i < sl.length) : (gens sl).getD i 0 = (sAt sl i).gen := by
  rw [← sAt_get hi]; simp [gens, List.getD, List.getElem?_eq_getElem hi]

set_option maxHeartbeats 1600000 in
theorem rt_at (last h : Int) (v : Value) (sl : List ASlot) (ok : Nat → Prop) (w : World) (hr : RT ok w v last sl) (hF : FineA last sl) :
    Calls Try.prog 49 #[v, .int .i64 h] w fun e w' => e = .returned (.tuple #[.int .i64 (rAtI sl h), .int .i64 (atE sl h)]) ∧ Keeps (fun _ => False) w w' := by
  obtain ⟨Ag, cg, At, ct, rfl, hg, ht⟩ := hr.form
  have n1 := hF.n1
  have hml := things_len sl
  have hblk := heap_alloc_new w (.cells #[.int .i64 last, .slice Ag sl.length cg, .slice At (things sl).length ct] 54)
  have k0 : Keeps (fun _ => False) w (w.alloc (.cells #[.int .i64 last, .slice Ag sl.length cg, .slice At (things sl).length ct] 54)) := (Keeps.refl _ _).alloc _
  generalize hw0 : w.alloc (.cells #[.int .i64 last, .slice Ag sl.length cg, .slice At (things sl).length ct] 54) = w0 at *
  have c0 : w0.cell? ⟨w.heap.size, 0, none⟩ = some _ := (blkcell hblk 0).trans rfl
  have c1 : w0.cell? ⟨w.heap.size, 1, none⟩ = some _ := (blkcell hblk 1).trans rfl
  have c2 : w0.cell? ⟨w.heap.size, 2, none⟩ = some _ := (blkcell hblk 2).trans rfl
  by_cases hi0 : hS h < 0
  · have e := atE_far (sl := sl) (h := h) (by omega)
    rw [rAtI, e, if_neg (by omega)]
    go_enter Try.func49, Try.ntmps49
    go_wp2_with (go_at_call 72; refine (rd_slot h _).mono ?_; rintro e w' ⟨rfl, rfl⟩)
    go_ret2
    exact ⟨rfl, k0⟩
  · by_cases hi1 : hS h < sl.length
    · obtain ⟨i, hi⟩ : ∃ i : Nat, hS h = i := ⟨(hS h).toNat, by omega⟩
      have hil : i < sl.length := by omega
      have e := atE_in hi hil
      rw [rAtI, hi, Int.toNat_natCast, e]
      have HI := Lib.hid hi
      clear hi0 hi1 hi e
      have hil1 : ¬ ((sl.length : Int) ≤ i) := by omega
      have hil0 : ¬ ((i : Int) < 0) := by omega
      have hft : findT (things sl) i = if (sAt sl i).used = true then ((cnt sl i : Nat) : Int) else -1 := by
        split
        · rename_i hu; exact findT_yes hil hu
        · rename_i hu; exact findT_no hil (by simpa using hu)
      obtain ⟨b, o, hAg, hb, hcg⟩ : ∃ b o, Ag = some ⟨b, o, none⟩ ∧ b < w.heap.size ∧ w.cell? ⟨b, o + i, none⟩ = some (.int .i64 (sAt sl i).gen) := by
        obtain ⟨_, _, _, hv, _, hc⟩ := hg.at_int
        injection hv with hv1 hv2 hv3
        subst hv1
        obtain ⟨b, o, e, hc⟩ := hc (by omega)
        have := hc i hil
        rw [gens_at hil] at this
        exact ⟨b, o, e, cell_below this, this⟩
      subst hAg
      have HFT := Lib.hid hft
      clear hft
      generalize hcnt : (cnt sl i : Nat) = cn at *
      clear hcnt
      generalize sAt sl i = t at *
      obtain ⟨ge, us, x⟩ := t
      dsimp only at hcg HFT ⊢
      cases us with
      | false =>
        have ee : (if false = true ∧ ge = hG h then (0 : Int) else 9) = 9 := if_neg (fun x => by cases x.1)
        rw [ee, if_neg (by omega)]
        clear ee
        go_enter Try.func49, Try.ntmps49
        go_wp2_with (go_at_call 72; refine (rd_slot h _).mono ?_; rintro e w' ⟨rfl, rfl⟩; rw [HI.out])
        refine (rt_find last i _ _ _ _ (things sl) ok _ (ht.keeps k0 (fun _ _ _ x => x)) (by omega)).mono ?_
        rintro e w1 ⟨rfl, k1⟩
        rw [HFT.out, if_neg (by simp)]
        go_wp2_with fail
        refine wp_qall (w0 := w1) ⟨0, rfl⟩ (by kernel_rfl) (by kernel_rfl) ?_
        repeat go_big_quiet_step (fail)
        refine wpQuiet_nil (fun nq => ?_)
        go_wp2
        go_ret2
        exact ⟨rfl, (k0.trans' k1).drewN nq⟩
      | true =>
        by_cases hg' : ge = hG h
        · have ee : (if true = true ∧ ge = hG h then (0 : Int) else 9) = 0 := if_pos ⟨rfl, hg'⟩
          rw [ee, if_pos rfl]
          have hne : (ge != hG h) = false := by simp [hg']
          clear hg' ee
          generalize hz : hG h = z at *
          have HZ := Lib.hid hz
          clear hz
          go_enter Try.func49, Try.ntmps49
          go_wp2_with (go_at_call 72; refine (rd_slot h _).mono ?_; rintro e w' ⟨rfl, rfl⟩; rw [HI.out])
          refine (rt_find last i _ _ _ _ (things sl) ok _ (ht.keeps k0 (fun _ _ _ x => x)) (by omega)).mono ?_
          rintro e w1 ⟨rfl, k1⟩
          rw [HFT.out, if_pos trivial]
          have hb1 := k1.blk hblk (fun x => x)
          have d1 : w1.cell? ⟨w.heap.size, 1, none⟩ = some _ := (blkcell hb1 1).trans rfl
          have hcg1 := ((k0.trans' k1).cell (p := ⟨b, o + i, none⟩) hb (fun x => x)).trans hcg
          have hcn : decide ((cn : Int) < 0) = false := decide_eq_false (by omega)
          go_wp2_with fail
          refine wp_qall (w0 := w1) ⟨0, rfl⟩ (by kernel_rfl) (by kernel_rfl) ?_
          repeat (go_big_quiet_step ((go_at_call 74; exact calls_q (rd_gen h z HZ.out _))))
          refine wpQuiet_nil (fun nq => ?_)
          go_wp2
          go_ret2
          exact ⟨rfl, (k0.trans' k1).drewN nq⟩
        · have ee : (if true = true ∧ ge = hG h then (0 : Int) else 9) = 9 := if_neg (fun x => hg' x.2)
          rw [ee, if_neg (by omega)]
          have hne : (ge != hG h) = true := by simpa using hg'
          clear hg' ee
          generalize hz : hG h = z at *
          have HZ := Lib.hid hz
          clear hz
          go_enter Try.func49, Try.ntmps49
          go_wp2_with (go_at_call 72; refine (rd_slot h _).mono ?_; rintro e w' ⟨rfl, rfl⟩; rw [HI.out])
          refine (rt_find last i _ _ _ _ (things sl) ok _ (ht.keeps k0 (fun _ _ _ x => x)) (by omega)).mono ?_
          rintro e w1 ⟨rfl, k1⟩
          rw [HFT.out, if_pos trivial]
          have hb1 := k1.blk hblk (fun x => x)
          have d1 : w1.cell? ⟨w.heap.size, 1, none⟩ = some _ := (blkcell hb1 1).trans rfl
          have hcg1 := ((k0.trans' k1).cell (p := ⟨b, o + i, none⟩) hb (fun x => x)).trans hcg
          have hcn : decide ((cn : Int) < 0) = false := decide_eq_false (by omega)
          go_wp2_with fail
          refine wp_qall (w0 := w1) ⟨0, rfl⟩ (by kernel_rfl) (by kernel_rfl) ?_
          repeat (go_big_quiet_step ((go_at_call 74; exact calls_q (rd_gen h z HZ.out _))))
          refine wpQuiet_nil (fun nq => ?_)
          go_wp2
          go_ret2
          exact ⟨rfl, (k0.trans' k1).drewN nq⟩
    · have e := atE_far (sl := sl) (h := h) (by omega)
      have hi2 : (sl.length : Int) ≤ hS h := by omega
      rw [rAtI, e, if_neg (by omega)]
      go_enter Try.func49, Try.ntmps49
      go_wp2_with (go_at_call 72; refine (rd_slot h _).mono ?_; rintro e w' ⟨rfl, rfl⟩)
      go_ret2
      exact ⟨rfl, k0⟩

theorem rAtI_yes {sl : List ASlot} {h : Int} (he : atE sl h = 0) : ∃ c : Nat, rAtI sl h = c ∧ c < (things sl).length ∧ (things sl).getD c (0, 0) = (hS h, getX sl h) ∧ ∃ i : Nat, hS h = i ∧ i < sl.length ∧ (sAt sl i).used = true ∧ c = cnt sl i := by
  obtain ⟨i, hi, hil, hu, hg⟩ := atE_yes he
  refine ⟨cnt sl i, by rw [rAtI, if_pos he, hi, Int.toNat_natCast], cnt_lt hil hu, ?_, i, hi, hil, hu, rfl⟩
  rw [things_at hil hu, getX, if_pos he, hi, Int.toNat_natCast]

set_option maxHeartbeats 800000 in
theorem rt_get (last h : Int) (v : Value) (sl : List ASlot) (ok : Nat → Prop) (w : World) (hr : RT ok w v last sl) (hF : FineA last sl) :
    Calls Try.prog 55 #[v, .int .i64 h] w fun e w' => e = .returned (.tuple #[.int .i64 (getX sl h), .int .i64 (atE sl h)]) ∧ Keeps (fun _ => False) w w' := by
  obtain ⟨Ag, cg, At, ct, rfl, hg, ht⟩ := hr.form
  have hblk := heap_alloc_new w (.cells #[.int .i64 last, .slice Ag sl.length cg, .slice At (things sl).length ct] 54)
  have k0 : Keeps (fun _ => False) w (w.alloc (.cells #[.int .i64 last, .slice Ag sl.length cg, .slice At (things sl).length ct] 54)) := (Keeps.refl _ _).alloc _
  generalize hw0 : w.alloc (.cells #[.int .i64 last, .slice Ag sl.length cg, .slice At (things sl).length ct] 54) = w0 at *
  have c0 : w0.cell? ⟨w.heap.size, 0, none⟩ = some _ := (blkcell hblk 0).trans rfl
  have c1 : w0.cell? ⟨w.heap.size, 1, none⟩ = some _ := (blkcell hblk 1).trans rfl
  have c2 : w0.cell? ⟨w.heap.size, 2, none⟩ = some _ := (blkcell hblk 2).trans rfl
  by_cases he : atE sl h = 0
  · obtain ⟨cn, hcn, hcl, hct, _⟩ := rAtI_yes he
    obtain ⟨b, o, hAt, hb, hcx⟩ : ∃ b o, At = some ⟨b, o, none⟩ ∧ b < w.heap.size ∧ w.cell? ⟨b, o + cn * 2 + 1, none⟩ = some (.int .i64 (getX sl h)) := by
      obtain ⟨_, _, _, hv, _, hc⟩ := ht.at_T
      injection hv with hv1 hv2 hv3
      subst hv1
      obtain ⟨b, o, e, hb, hc⟩ := hc (by omega)
      have := (hc cn hcl).2
      rw [hct] at this
      exact ⟨b, o, e, hb, this⟩
    subst hAt
    rw [he]
    have HE := Lib.hid he
    have HC := Lib.hid hcn
    clear hct hcn he
    generalize getX sl h = x at *
    go_enter Try.func55, Try.ntmps55
    go_wp2_with fail
    refine (rt_at last h _ sl ok _ (hr.still k0) hF).mono ?_
    rintro e w1 ⟨rfl, k1⟩
    rw [HE.out, HC.out]
    have hb1 := k1.blk hblk (fun x => x)
    have d2 : w1.cell? ⟨w.heap.size, 2, none⟩ = some _ := (blkcell hb1 2).trans rfl
    have hcx1 := ((k0.trans' k1).cell (p := ⟨b, o + cn * 2 + 1, none⟩) hb (fun x => x)).trans hcx
    go_wp2_with fail
    go_ret2
    exact ⟨rfl, k0.trans' k1⟩
  · have hne : (atE sl h != 0) = true := by simpa using he
    rw [getX, if_neg he]
    go_enter Try.func55, Try.ntmps55
    go_wp2_with fail
    refine (rt_at last h _ sl ok _ (hr.still k0) hF).mono ?_
    rintro e w1 ⟨rfl, k1⟩
    go_wp2_with fail
    go_ret2
    exact ⟨rfl, k0.trans' k1⟩
end Go.Proofs.Ytlfccifibhcacaa
