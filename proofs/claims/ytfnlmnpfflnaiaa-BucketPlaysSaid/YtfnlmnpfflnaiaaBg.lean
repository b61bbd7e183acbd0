/- BucketPlays, the walk: the buckets and the document's lists answer alike, step by step. -/
import Derived.Test.YtfnlmnpfflnaiaaBf
import Derived.Deep.RegionHeld3
import Derived.Deep.LoopGhost
namespace Go.Proofs.Ytfnlmnpfflnaiaa
open Go.RowKit
set_option linter.unusedVariables false
set_option linter.unusedSimpArgs false

/-- What holds between two rounds. -/
structure InvB (w wr : World) (T g N L : Nat) (bs : List (List Int)) (v : Value) : Prop where
  tab : HoldsB wr T g N L bs
  good : Good bs
  all : RL (fun b => ¬ PB g N L b) wr v bs
  kept : Keeps (fun _ => False) w wr
  hg : w.heap.size ≤ g
  hN : w.heap.size ≤ N
  hL : w.heap.size ≤ L

theorem InvB.still {w wr w' : World} {T g N L : Nat} {bs : List (List Int)} {v : Value} (h : InvB w wr T g N L bs v) (hk : Keeps (fun _ => False) wr w') : InvB w w' T g N L bs v :=
  ⟨h.tab.still hk, h.good, h.all.still hk, h.kept.trans' hk, h.hg, h.hN, h.hL⟩
theorem InvB.PBlow {w wr : World} {T g N L : Nat} {bs : List (List Int)} {v : Value} (h : InvB w wr T g N L bs v) {k : Nat} (hk : PB g N L k) : w.heap.size ≤ k := by
  rcases hk with rfl | rfl | rfl; exact h.hg; exact h.hN; exact h.hL
theorem InvB.PBhigh {w wr : World} {T g N L : Nat} {bs : List (List Int)} {v : Value} (h : InvB w wr T g N L bs v) {k : Nat} (hk : PB g N L k) : k < wr.heap.size := by
  obtain ⟨a, b, c⟩ := h.tab.pool.lt
  rcases hk with rfl | rfl | rfl <;> assumption
theorem InvB.step {w wr w5 w6 : World} {T g N L : Nat} {bs bs' : List (List Int)} {v v' : Value} {o : Obj} (h : InvB w wr T g N L bs v) (h5 : HoldsB w5 T g N L bs') (hg : Good bs') (k5 : Keeps (PB g N L) (wr.alloc o) w5)
    (hv6 : RL (fun b => ¬ PB g N L b ∨ w5.heap.size ≤ b) w6 v' bs') (k6 : Keeps (fun _ => False) w5 w6) : InvB w w6 T g N L bs' v' := by
  have z5 : wr.heap.size < w5.heap.size := by have := k5.size; rw [World.size_alloc] at this; omega
  have kr : Keeps (fun _ => False) wr (wr.alloc o) := (Keeps.refl _ _).alloc _
  refine ⟨h5.still k6, hg, hv6.mono (fun k hk _ => ?_), ?_, h.hg, h.hN, h.hL⟩
  · rcases hk with hk | hk
    · exact hk
    · intro hp; have := h.PBhigh hp; omega
  · exact ((h.kept.trans' kr).trans k5 (fun k hk hp => absurd (h.PBlow hp) (by omega))).trans' k6

theorem mem_len {bs : List (List Int)} (h : Good bs) (q : Nat) : (bs.getD q []).length ≤ 16 := by
  by_cases hq : q < bs.length
  · have hm : bs[q] ∈ bs := List.getElem_mem hq
    have hs : (bs[q]).Sublist bs.flatten := List.sublist_flatten_of_mem hm
    have := small_len 16 bs.flatten h.nodup h.small
    have := hs.length_le
    simp only [List.getD, List.getElem?_eq_getElem hq, Option.getD_some]
    omega
  · simp [List.getD, List.getElem?_eq_none (show bs.length ≤ q by omega)]
theorem list_len {bs : List (List Int)} (h : Good bs) (k : Int) : (listQ bs k).length ≤ 16 := by
  unfold listQ
  split
  · exact mem_len h _
  · simp
theorem fall_len (bs : List (List Int)) (k p : Int) : (fallBs bs k p).length = bs.length := by
  unfold fallBs; split <;> simp
theorem flush_len (bs : List (List Int)) (k : Int) : (flushBs bs k).length = bs.length := by
  unfold flushBs; split <;> simp

/-- A slice of steps that came in: a bool and two ints each. -/
def IsStepsB (w : World) (A : Option Addr) (len : Nat) (fs : Nat → Bool) (ks ps : Nat → Int) : Prop :=
  0 < len → ∃ b o, A = some ⟨b, o, none⟩ ∧ b < w.heap.size ∧ ∀ i, i < len → w.cell? ⟨b, o + i * 3, none⟩ = some (.bool (fs i)) ∧ w.cell? ⟨b, o + i * 3 + 1, none⟩ = some (.int .i64 (ks i)) ∧ w.cell? ⟨b, o + i * 3 + 2, none⟩ = some (.int .i64 (ps i))

set_option maxHeartbeats 4000000 in
set_option maxRecDepth 100000 in
theorem law24_walk (many : Nat) (hm : many ≤ 4) (A : Option Addr) (len cap : Nat) (fs : Nat → Bool) (ks ps : Nat → Int) (w : World) (hlen : len ≤ 80) (hcap : len ≤ cap) (hA : IsStepsB w A len fs ks ps) :
    Calls Try.prog 3 #[.int .i64 many, .slice A len cap] w fun e w' => e = .returned (.bool true) ∧ Keeps (fun _ => False) w w' := by
  have hl1 : ¬ (80 < (len : Int)) := by omega
  have hl2 : ¬ (80 < len) := by omega
  go_enter Try.func3, Try.ntmps3
  go_wp2_with fail
  refine (b_new many _ hm).mono ?_
  rintro e w1 ⟨T, g, N, L, rfl, hT, hg, hN, hL, h1, k1⟩
  go_wp2_with fail
  refine (r24_new many _ hm).mono ?_
  rintro e w2 ⟨v0, rfl, hv, k2⟩
  go_wp2_with fail
  have hI : InvB w w2 T g N L (List.replicate many []) v0 := by
    have l1 := h1.pool.lt
    exact ⟨h1.still k2, good_nil many, hv.mono (fun k hk _ => by rintro (h | h | h) <;> omega), k1.trans' k2, hg, hN, hL⟩
  have hml : (List.replicate many ([] : List Int)).length = many := List.length_replicate
  generalize List.replicate many ([] : List Int) = bs0 at *
  clear h1 k1 k2 hg hN hL hv
  have HM := Lib.hid hml
  clear hml
  go_loopg [7, 56] len (fun q r i wr => ∃ (j : Nat) (bs : List (List Int)), i = .int .i64 j ∧ j + q = len ∧ bs.length = many ∧ InvB w wr T g N L bs r)
  case atStart => exact ⟨0, bs0, rfl, by omega, HM.out, hI⟩
  case round =>
    clear hI
    obtain ⟨j, bs, rfl, hj, hml, hI⟩ := hrel
    have HJ := Lib.hid hj
    have HML := Lib.hid hml
    have hjl : j ≤ len := by omega
    clear hj hml
    obtain ⟨Av, cv, rfl⟩ := hI.all.slice_
    by_cases hlt : j < len
    · obtain ⟨b, o, rfl, hb, hx⟩ := hA (by omega)
      obtain ⟨hx0, hx1, hx2⟩ := hx j hlt
      clear hx hA
      have hx0' := (hI.kept.cell (p := ⟨b, o + j * 3, none⟩) hb (fun x => x)).trans hx0
      have hx1' := (hI.kept.cell (p := ⟨b, o + j * 3 + 1, none⟩) hb (fun x => x)).trans hx1
      have hx2' := (hI.kept.cell (p := ⟨b, o + j * 3 + 2, none⟩) hb (fun x => x)).trans hx2
      clear hx0 hx1 hx2
      generalize fs j = f at *
      generalize ks j = k at *
      generalize ps j = p at *
      have hS := heap_alloc_new wr (.cells #[.bool f, .int .i64 k, .int .i64 p] 32)
      have hIS := hI.still ((Keeps.refl (fun _ => False) wr).alloc (.cells #[.bool f, .int .i64 k, .int .i64 p] 32))
      have cS1 : (wr.alloc (.cells #[.bool f, .int .i64 k, .int .i64 p] 32)).cell? ⟨wr.heap.size, 1, none⟩ = some (.int .i64 k) := (blkcell hS 1).trans rfl
      have cS2 : (wr.alloc (.cells #[.bool f, .int .i64 k, .int .i64 p] 32)).cell? ⟨wr.heap.size, 2, none⟩ = some (.int .i64 p) := (blkcell hS 2).trans rfl
      have h4 := hI.tab.many
      cases f with
      | true =>
        go_wp2_with fail
        refine (b_flush T g N L bs k _ hIS.tab).mono ?_
        rintro e w5 ⟨v1, rfl, hv1, h5, k5⟩
        obtain ⟨A1, c1, rfl⟩ := hv1.slice_
        have hv5 := hIS.all.keeps k5 (fun k hk _ hp => hk hp)
        have hs5 := k5.blk hS (fun hp => by have := hI.PBhigh hp; omega)
        have cs5 : w5.cell? ⟨wr.heap.size, 1, none⟩ = some (.int .i64 k) := (blkcell hs5 1).trans rfl
        go_wp2_with fail
        refine (r24_flush _ k bs _ _ hv5 h4).mono ?_
        rintro e w6 ⟨v', u, rfl, hv6, hu6, k6⟩
        obtain ⟨A2, c2, rfl⟩ := hu6.slice_
        have hne0 : (flushE bs k != flushE bs k) = false := by simp
        have hls : (listQ bs k).length ≤ 2000 := by have := list_len hI.good k; omega
        have hml' := Lib.hid (flush_len bs k)
        have hg' := hI.good.flush k
        generalize flushBs bs k = bs' at *
        have hI6 := hI.step h5 hg' k5 hv6 k6
        have hs6 := k6.blk hs5 (fun x => x)
        obtain ⟨A6, c6, rfl⟩ := hv6.slice_
        clear cs5
        go_wp2_with fail
        refine (ref2_same (listQ bs k).length _ _ (listQ bs k) (listQ bs k) _ _ _ (hv1.keeps k6 (fun _ _ _ x => x)) hu6 hls).mono ?_
        rintro e w7 ⟨rfl, q7, rfl⟩
        have k7 : Keeps (fun _ => False) w6 (w6.drewN q7) := (Keeps.refl _ _).drewN q7
        have hI7 := hI6.still k7
        have hs7 := k7.blk hs6 (fun x => x)
        have cs7 : (w6.drewN q7).cell? ⟨wr.heap.size, 2, none⟩ = some (.int .i64 p) := (blkcell hs7 2).trans rfl
        have HML' := Lib.hid (hml'.out.trans HML.out)
        have hne3 : ((bs'.length : Int) != (many : Int)) = false := by simp [HML'.out]
        clear hml'
        have hlq : ∀ q, (bs'.getD q []).length ≤ 2000 := fun q => by have := mem_len hI7.good q; omega
        have hll : (listQ bs' k).length ≤ 2000 := by have := list_len hI7.good k; omega
        have h4' := hI7.tab.many
        go_wp2_with fail
        refine (b_where T g N L bs' p _ hI7.tab).mono ?_
        rintro e w8 ⟨rfl, k8⟩
        have hI8 := hI7.still k8
        have hs8 := k8.blk hs7 (fun x => x)
        have cs8 : w8.cell? ⟨wr.heap.size, 2, none⟩ = some (.int .i64 p) := (blkcell hs8 2).trans rfl
        go_wp2_with fail
        refine (r24_where _ p bs' _ _ hI8.all h4' hlq).mono ?_
        rintro e w9 ⟨rfl, hw9⟩
        obtain rfl := hw9
        have hne1 : (whereK bs' p != whereK bs' p) = false := by simp
        have hne2 : (whereB bs' p != whereB bs' p) = false := by simp
        have hSS : ∀ W, Keeps (fun _ => False) w8 W → W.cell? ⟨wr.heap.size, 1, none⟩ = some (.int .i64 k) := fun W hW => (blkcell (hW.blk hs8 (fun x => x)) 1).trans rfl
        clear cs8
        go_wp2_with fail
        go_region_held3 (fun W => W.cell? ⟨wr.heap.size, 1, none⟩ = some (.int .i64 k)) (exact hSS _ (by repeat (first | (with_reducible assumption) | exact Keeps.refl _ _ | apply Keeps.drew)))
          (first | (go_at_call 16; refine (b_list T g N L bs' k _ (hI8.tab.still (by repeat (first | (with_reducible assumption) | exact Keeps.refl _ _ | apply Keeps.drew)))).mono ?_; rintro e w10 ⟨u, rfl, hu, k10'⟩; have k10 : Keeps (fun _ => False) w8 w10 := Keeps.trans' (by repeat (first | (with_reducible assumption) | exact Keeps.refl _ _ | apply Keeps.drew)) k10'; obtain ⟨A10, c10, rfl⟩ := hu.slice_)
                 | (go_at_call 17; refine (r24_list _ k bs' _ _ (hI8.all.still (by repeat (first | (with_reducible assumption) | exact Keeps.refl _ _ | apply Keeps.drew)))).mono ?_; rintro e w11 ⟨u, rfl, hv11, rfl⟩; obtain ⟨A11, c11, rfl⟩ := hv11.slice_)
                 | (go_at_call 11; refine (ref2_same (listQ bs' k).length _ _ (listQ bs' k) (listQ bs' k) _ _ _ hu hv11 hll).mono ?_; rintro e w12 ⟨rfl, q12, rfl⟩; have k12 := k10.drewN q12)
                 | (go_at_call 18; refine (b_many T g N L bs' _ (hI8.tab.still (by repeat (first | (with_reducible assumption) | exact Keeps.refl _ _ | apply Keeps.drew)))).mono ?_; rintro e w13 ⟨rfl, rfl⟩))
        go_wp2_with fail
        have hj := HJ.out
        go_roundg (gk - 1)
        case measure => omega
        case rel => exact ⟨j + 1, bs', by go_num, by omega, HML'.out, hI8.still k12⟩
      | false =>
        go_wp2_with fail
        refine (b_fall T g N L bs k p _ hIS.tab hI.good).mono ?_
        rintro e w5 ⟨rfl, h5, k5⟩
        have hv5 := hIS.all.keeps k5 (fun k hk _ hp => hk hp)
        have hs5 := k5.blk hS (fun hp => by have := hI.PBhigh hp; omega)
        have cs5 : w5.cell? ⟨wr.heap.size, 1, none⟩ = some (.int .i64 k) := (blkcell hs5 1).trans rfl
        have cs52 : w5.cell? ⟨wr.heap.size, 2, none⟩ = some (.int .i64 p) := (blkcell hs5 2).trans rfl
        go_wp2_with fail
        refine (r24_fall _ k p bs _ _ hv5 h4 (fun q => by have := mem_len hI.good q; omega)).mono ?_
        rintro e w6 ⟨v', rfl, hv6, k6⟩
        have hne0 : (fallE bs k p != fallE bs k p) = false := by simp
        have hml' := Lib.hid (fall_len bs k p)
        have hg' := hI.good.fall k p
        generalize fallBs bs k p = bs' at *
        have hI7 := hI.step h5 hg' k5 hv6 k6
        have hs7 := k6.blk hs5 (fun x => x)
        have cs7 : w6.cell? ⟨wr.heap.size, 2, none⟩ = some (.int .i64 p) := (blkcell hs7 2).trans rfl
        clear cs5 cs52
        have HML' := Lib.hid (hml'.out.trans HML.out)
        have hne3 : ((bs'.length : Int) != (many : Int)) = false := by simp [HML'.out]
        clear hml'
        have hlq : ∀ q, (bs'.getD q []).length ≤ 2000 := fun q => by have := mem_len hI7.good q; omega
        have hll : (listQ bs' k).length ≤ 2000 := by have := list_len hI7.good k; omega
        have h4' := hI7.tab.many
        obtain ⟨A7, c7, rfl⟩ := hI7.all.slice_
        go_wp2_with fail
        refine (b_where T g N L bs' p _ hI7.tab).mono ?_
        rintro e w8 ⟨rfl, k8⟩
        have hI8 := hI7.still k8
        have hs8 := k8.blk hs7 (fun x => x)
        have cs8 : w8.cell? ⟨wr.heap.size, 2, none⟩ = some (.int .i64 p) := (blkcell hs8 2).trans rfl
        go_wp2_with fail
        refine (r24_where _ p bs' _ _ hI8.all h4' hlq).mono ?_
        rintro e w9 ⟨rfl, hw9⟩
        obtain rfl := hw9
        have hne1 : (whereK bs' p != whereK bs' p) = false := by simp
        have hne2 : (whereB bs' p != whereB bs' p) = false := by simp
        have hSS : ∀ W, Keeps (fun _ => False) w8 W → W.cell? ⟨wr.heap.size, 1, none⟩ = some (.int .i64 k) := fun W hW => (blkcell (hW.blk hs8 (fun x => x)) 1).trans rfl
        clear cs8
        go_wp2_with fail
        go_region_held3 (fun W => W.cell? ⟨wr.heap.size, 1, none⟩ = some (.int .i64 k)) (exact hSS _ (by repeat (first | (with_reducible assumption) | exact Keeps.refl _ _ | apply Keeps.drew)))
          (first | (go_at_call 16; refine (b_list T g N L bs' k _ (hI8.tab.still (by repeat (first | (with_reducible assumption) | exact Keeps.refl _ _ | apply Keeps.drew)))).mono ?_; rintro e w10 ⟨u, rfl, hu, k10'⟩; have k10 : Keeps (fun _ => False) w8 w10 := Keeps.trans' (by repeat (first | (with_reducible assumption) | exact Keeps.refl _ _ | apply Keeps.drew)) k10'; obtain ⟨A10, c10, rfl⟩ := hu.slice_)
                 | (go_at_call 17; refine (r24_list _ k bs' _ _ (hI8.all.still (by repeat (first | (with_reducible assumption) | exact Keeps.refl _ _ | apply Keeps.drew)))).mono ?_; rintro e w11 ⟨u, rfl, hv11, rfl⟩; obtain ⟨A11, c11, rfl⟩ := hv11.slice_)
                 | (go_at_call 11; refine (ref2_same (listQ bs' k).length _ _ (listQ bs' k) (listQ bs' k) _ _ _ hu hv11 hll).mono ?_; rintro e w12 ⟨rfl, q12, rfl⟩; have k12 := k10.drewN q12)
                 | (go_at_call 18; refine (b_many T g N L bs' _ (hI8.tab.still (by repeat (first | (with_reducible assumption) | exact Keeps.refl _ _ | apply Keeps.drew)))).mono ?_; rintro e w13 ⟨rfl, rfl⟩))
        go_wp2_with fail
        have hj := HJ.out
        go_roundg (gk - 1)
        case measure => omega
        case rel => exact ⟨j + 1, bs', by go_num, by omega, HML'.out, hI8.still k12⟩
    · have e : j = len := by omega
      subst e
      go_wp2_with fail
      refine (law24_alive _).mono ?_
      rintro e w5 ⟨rfl, k5⟩
      go_wp2
      go_ret
      exact ⟨rfl, hI.kept.trans' k5⟩
end Go.Proofs.Ytfnlmnpfflnaiaa
