/- ArenaPlays, the walk: the table and the document's answer alike, step by step. -/
import Derived.Test.YtlfccifibhcacaaAv
namespace Go.Proofs.Ytlfccifibhcacaa
open Go.RowKit
set_option linter.unusedVariables false
set_option linter.unusedSimpArgs false

/-- What holds between two rounds. -/
structure InvA (w wr : World) (g s B : Nat) (last : Int) (sl : List ASlot) (vg vt : Value) : Prop where
  tab : HoldsA wr g s last sl
  box : wr.heap[B]? = some (.cells #[.int .i64 last, vg, vt] 54 (0, 0))
  all : RT (fun b => b ≠ g ∧ b ≠ s ∧ b ≠ B) wr (.agg #[.int .i64 last, vg, vt]) last sl
  kept : Keeps (fun _ => False) w wr
  hg : w.heap.size ≤ g
  hs : w.heap.size ≤ s
  hB : w.heap.size ≤ B
  gB : g ≠ B
  sB : s ≠ B

namespace InvA
variable {w wr w' : World} {g s B : Nat} {last : Int} {sl sl' : List ASlot} {vg vt vg' vt' : Value}
theorem still (h : InvA w wr g s B last sl vg vt) (hk : Keeps (fun _ => False) wr w') : InvA w w' g s B last sl vg vt :=
  ⟨h.tab.still hk, hk.blk h.box (fun x => x), h.all.still hk, h.kept.trans' hk, h.hg, h.hs, h.hB, h.gB, h.sB⟩
theorem put3 {w5 : World} (h : InvA w wr g s B last sl vg vt) (ht : HoldsA w5 g s last sl') (hb : w5.heap[B]? = some (.cells #[.int .i64 last, vg, vt] 54 (0, 0)))
    (hv : RT (fun b => b ≠ g ∧ b ≠ s ∧ b ≠ B) w5 (.agg #[.int .i64 last, vg', vt']) last sl') (hk : Keeps (fun _ => False) w w5) :
    InvA w (((w5.setCell ⟨B, 0, none⟩ (.int .i64 last)).setCell ⟨B, 1, none⟩ vg').setCell ⟨B, 2, none⟩ vt') g s B last sl' vg' vt' := by
  have hB := h.hB
  have k1 : Keeps (fun b => b = B) w5 (((w5.setCell ⟨B, 0, none⟩ (.int .i64 last)).setCell ⟨B, 1, none⟩ vg').setCell ⟨B, 2, none⟩ vt') :=
    (((Keeps.refl (fun b => b = B) _).setCell (.inl rfl) _).setCell (.inl rfl) _).setCell (.inl rfl) _
  refine ⟨ht.keeps k1 h.gB h.sB, by rw [blkset (blkset (blkset hb _ _) _ _)]; rfl, hv.keeps k1 (fun _ x _ => x.2.2), ((hk.setCell (p := ⟨B, 0, none⟩) (.inr hB) _).setCell (p := ⟨B, 1, none⟩) (.inr hB) _).setCell (p := ⟨B, 2, none⟩) (.inr hB) _, h.hg, h.hs, h.hB, h.gB, h.sB⟩
theorem lts (h : InvA w wr g s B last sl vg vt) : g < wr.heap.size ∧ s < wr.heap.size ∧ B < wr.heap.size := ⟨h.tab.lt.1, h.tab.lt.2, blklt h.box⟩
end InvA

/-- A slice of steps that came in: a byte and two ints each. -/
def IsStepsA (w : World) (A : Option Addr) (len : Nat) (ds : Nat → Nat) (hs xs : Nat → Int) : Prop :=
  0 < len → ∃ b o, A = some ⟨b, o, none⟩ ∧ b < w.heap.size ∧ ∀ i, i < len → w.cell? ⟨b, o + i * 3, none⟩ = some (.int .u8 (ds i)) ∧ w.cell? ⟨b, o + i * 3 + 1, none⟩ = some (.int .i64 (hs i)) ∧ w.cell? ⟨b, o + i * 3 + 2, none⟩ = some (.int .i64 (xs i)) ∧ ds i < 256

set_option maxHeartbeats 4000000 in
set_option maxRecDepth 100000 in
theorem law2_walk (room : Nat) (last : Int) (h1 : 0 < room) (h2 : room ≤ 30) (h3 : 1 ≤ last) (h4 : last ≤ 65535) (A : Option Addr) (len cap : Nat) (ds : Nat → Nat) (hh xs : Nat → Int) (w : World) (hlen : len ≤ 100) (hcap : len ≤ cap) (hA : IsStepsA w A len ds hh xs) :
    Calls Try.prog 4 #[.int .i64 room, .int .i64 last, .slice A len cap] w fun e w' => e = .returned (.bool true) ∧ Keeps (fun _ => False) w w' := by
  have hl0 : ¬ (30 < (room : Int)) := by omega
  have hl1 : ¬ (100 < (len : Int)) := by omega
  have hl2 : ¬ (100 < len) := by omega
  go_enter Try.func4, Try.ntmps4
  go_wp2_with fail
  refine (ar_new room last _ h1 h2 h3 h4).mono ?_
  rintro e w1 ⟨g, s, rfl, hg, hs, ha, k1⟩
  go_wp2_with fail
  refine (rt_new room last _ h1 h2 h3 h4).mono ?_
  rintro e w2 ⟨rfl, hr, k2⟩
  go_wp2_with fail
  have kA : Keeps (fun _ => False) w2 (w2.alloc (.cells #[.int .i64 last, .slice (some ⟨w1.heap.size + 1, 0, none⟩) room room, .slice none 0 0] 54)) := (Keeps.refl _ _).alloc _
  have hI : InvA w (w2.alloc (.cells #[.int .i64 last, .slice (some ⟨w1.heap.size + 1, 0, none⟩) room room, .slice none 0 0] 54)) g s w2.heap.size last (List.replicate room s0) (.slice (some ⟨w1.heap.size + 1, 0, none⟩) room room) (.slice none 0 0) := by
    have l1 := ha.lt
    have z1 := k1.size
    have z2 := k2.size
    refine ⟨ha.still (k2.trans' kA), heap_alloc_new _ _, (hr.mono (fun b hb hlt => ⟨by omega, by omega, by omega⟩)).still kA, (k1.trans' k2).trans' kA, hg, hs, by omega, by omega, by omega⟩
  have hsl : (List.replicate room s0).length = room := by simp
  generalize List.replicate room s0 = sl0 at *
  generalize (Value.slice (some ⟨w1.heap.size + 1, 0, none⟩) room room) = vg0 at *
  generalize (w2.alloc (.cells #[.int .i64 last, vg0, .slice none 0 0] 54)) = w3 at *
  generalize w2.heap.size = B at *
  clear ha hr k1 k2 kA hg hs hsl
  go_loopg [61] len (fun q i wr => ∃ (j : Nat) (sl : List ASlot) (vg vt : Value), i = .int .i64 j ∧ j + q = len ∧ InvA w wr g s B last sl vg vt)
  case atStart => exact ⟨0, _, _, _, rfl, by omega, hI⟩
  case round =>
    clear hI
    obtain ⟨j, sl, vg, vt, rfl, hj, hI⟩ := hrel
    have HJ := Lib.hid hj
    have hjl : j ≤ len := by omega
    clear hj
    obtain ⟨Ag, cg, At, ct, hve, _, _⟩ := hI.all.form
    have hve' : vg = .slice Ag sl.length cg ∧ vt = .slice At (things sl).length ct := by
      injection hve with hve
      have e1 := congrArg (fun a => a[1]!) hve
      have e2 := congrArg (fun a => a[2]!) hve
      exact ⟨e1, e2⟩
    obtain ⟨rfl, rfl⟩ := hve'
    clear hve
    by_cases hlt : j < len
    · obtain ⟨b, o, rfl, hb, hx⟩ := hA (by omega)
      obtain ⟨hx0, hx1, hx2, hd⟩ := hx j hlt
      clear hx hA
      have hx0' := (hI.kept.cell (p := ⟨b, o + j * 3, none⟩) hb (fun x => x)).trans hx0
      have hx1' := (hI.kept.cell (p := ⟨b, o + j * 3 + 1, none⟩) hb (fun x => x)).trans hx1
      have hx2' := (hI.kept.cell (p := ⟨b, o + j * 3 + 2, none⟩) hb (fun x => x)).trans hx2
      clear hx0 hx1 hx2
      generalize ds j = d at *
      generalize hh j = h at *
      generalize xs j = x at *
      have hS := heap_alloc_new wr (.cells #[.int .u8 d, .int .i64 h, .int .i64 x] 58)
      have hIS := hI.still ((Keeps.refl (fun _ => False) wr).alloc (.cells #[.int .u8 d, .int .i64 h, .int .i64 x] 58))
      have cS0 : (wr.alloc (.cells #[.int .u8 d, .int .i64 h, .int .i64 x] 58)).cell? ⟨wr.heap.size, 0, none⟩ = some (.int .u8 d) := (blkcell hS 0).trans rfl
      have cS1 : (wr.alloc (.cells #[.int .u8 d, .int .i64 h, .int .i64 x] 58)).cell? ⟨wr.heap.size, 1, none⟩ = some (.int .i64 h) := (blkcell hS 1).trans rfl
      have cS2 : (wr.alloc (.cells #[.int .u8 d, .int .i64 h, .int .i64 x] 58)).cell? ⟨wr.heap.size, 2, none⟩ = some (.int .i64 x) := (blkcell hS 2).trans rfl
      obtain ⟨lg, ls, lB⟩ := hI.lts
      have zI := hI.kept.size
      have hw : ∀ k, k < w.heap.size → ¬ (k = g ∨ k = s) := by have := hI.hg; have := hI.hs; intro k hk; omega
      generalize hwa : wr.alloc (.cells #[.int .u8 d, .int .i64 h, .int .i64 x] 58) = wa at *
      have za : wr.heap.size < wa.heap.size := blklt hS
      have h5c : d % 5 = 0 ∨ d % 5 = 1 ∨ d % 5 = 2 ∨ (3 ≤ d % 5 ∧ d % 5 < 5) := by omega
      rcases h5c with h5c | h5c | h5c | ⟨h5c, h5d⟩
      · have q0 : ((d : Int) % 5 == 0) = true := by simp; omega
        clear h5c
        go_wp2_with fail
        clear hwa
        have hSk : ∀ k, wr.heap.size = k → ¬ (k = g ∨ k = s) := by intro k hk; omega
        refine (ar_set _ _ _ _ h x _ hIS.tab).mono ?_
        rintro e w5 ⟨rfl, h5, k5'⟩
        have k5 : Keeps (fun k => k = g ∨ k = s) wa w5 := k5'.mono (fun _ _ h => by first | exact h | exact .inr h)
        have hb5 := k5.blk hIS.box (by rintro (h | h); exact hI.gB h.symm; exact hI.sB h.symm)
        have hs5 := k5.blk hS (hSk _ rfl)
        have hv5 := hIS.all.keeps k5 (by rintro k hk _ (rfl | rfl); exact hk.1 rfl; exact hk.2.1 rfl)
        have kk5 := hIS.kept.trans k5 (fun k hk hp => absurd hp (hw k hk))
        have c50 : w5.cell? ⟨B, 0, none⟩ = some _ := (blkcell hb5 0).trans rfl
        have c51 : w5.cell? ⟨B, 1, none⟩ = some _ := (blkcell hb5 1).trans rfl
        have c52 : w5.cell? ⟨B, 2, none⟩ = some _ := (blkcell hb5 2).trans rfl
        have s51 : w5.cell? ⟨wr.heap.size, 1, none⟩ = some _ := (blkcell hs5 1).trans rfl
        have s52 : w5.cell? ⟨wr.heap.size, 2, none⟩ = some _ := (blkcell hs5 2).trans rfl
        have l5 := h5.lt
        have lB5 := blklt hb5
        go_wp2_with fail
        refine (rt_set last h x _ sl _ _ hv5 hI.tab.fine).mono ?_
        rintro e w6 ⟨v', rfl, hv6, k6⟩
        have hv6' := hv6.mono (ok' := fun b => b ≠ g ∧ b ≠ s ∧ b ≠ B) (by rintro k (h | h) _; exact h; exact ⟨by omega, by omega, by omega⟩)
        clear hv6
        obtain ⟨Ag', cg', At', ct', rfl, _, _⟩ := hv6'.form
        have h6 := h5.still k6
        have hb6 := k6.blk hb5 (fun x => x)
        have hs6 := k6.blk hs5 (fun x => x)
        have f60 := blkfrozen hb6 0
        have f61 := blkfrozen hb6 1
        have f62 := blkfrozen hb6 2
        have c60 : w6.cell? ⟨B, 0, none⟩ = some _ := (blkcell hb6 0).trans rfl
        have c61 : w6.cell? ⟨B, 1, none⟩ = some _ := (blkcell hb6 1).trans rfl
        have c62 : w6.cell? ⟨B, 2, none⟩ = some _ := (blkcell hb6 2).trans rfl
        have hI7 := hI.put3 h6 hb6 hv6' (kk5.trans' k6)
        have ck : Keeps (fun b => b = B) w6 (((w6.setCell ⟨B, 0, none⟩ (.int .i64 last)).setCell ⟨B, 1, none⟩ (.slice Ag' (setS sl h x).length cg')).setCell ⟨B, 2, none⟩ (.slice At' (things (setS sl h x)).length ct')) :=
          (((Keeps.refl (fun b => b = B) _).setCell (.inl rfl) _).setCell (.inl rfl) _).setCell (.inl rfl) _
        have hs7 := ck.blk hs6 (show wr.heap.size ≠ B by omega)
        have hne : (atE sl h != atE sl h) = false := by simp
        clear ck c50 c51 c52 s51 s52 hv5 h5 k5 k5' hb5 hs5
        have hgen : ∃ W, W = (((w6.setCell ⟨B, 0, none⟩ (.int .i64 last)).setCell ⟨B, 1, none⟩ (.slice Ag' (setS sl h x).length cg')).setCell ⟨B, 2, none⟩ (.slice At' (things (setS sl h x)).length ct')) := ⟨_, rfl⟩
        obtain ⟨W, hW⟩ := hgen
        rw [← hW] at hI7 hs7
        have s71 : W.cell? ⟨wr.heap.size, 1, none⟩ = some _ := (blkcell hs7 1).trans rfl
        have c70 : W.cell? ⟨B, 0, none⟩ = some _ := (blkcell hI7.box 0).trans rfl
        have c71 : W.cell? ⟨B, 1, none⟩ = some _ := (blkcell hI7.box 1).trans rfl
        have c72 : W.cell? ⟨B, 2, none⟩ = some _ := (blkcell hI7.box 2).trans rfl
        replace hW := hW.symm
        generalize setS sl h x = sl' at *
        go_wp2_with fail
        refine (as2 g s last h _ sl' _ _ hI7.tab hI7.all).mono ?_
        rintro e w8 ⟨rfl, k8⟩
        clear hW c60 c61 c62 f60 f61 f62
        go_wp2_with fail
        have hj := HJ.out
        go_roundg (gk - 1)
        case measure => omega
        case rel => exact ⟨j + 1, sl', _, _, by go_num, by omega, hI7.still k8⟩
      · have q0 : ((d : Int) % 5 == 0) = false := by simp; omega
        have q1 : ((d : Int) % 5 == 1) = true := by simp; omega
        clear h5c
        go_wp2_with fail
        clear hwa
        have hSk : ∀ k, wr.heap.size = k → ¬ (k = g ∨ k = s) := by intro k hk; omega
        refine (ar_drop _ _ _ _ h _ hIS.tab).mono ?_
        rintro e w5 ⟨rfl, h5, k5'⟩
        have k5 : Keeps (fun k => k = g ∨ k = s) wa w5 := k5'.mono (fun _ _ h => by first | exact h | exact .inr h)
        have hb5 := k5.blk hIS.box (by rintro (h | h); exact hI.gB h.symm; exact hI.sB h.symm)
        have hs5 := k5.blk hS (hSk _ rfl)
        have hv5 := hIS.all.keeps k5 (by rintro k hk _ (rfl | rfl); exact hk.1 rfl; exact hk.2.1 rfl)
        have kk5 := hIS.kept.trans k5 (fun k hk hp => absurd hp (hw k hk))
        have c50 : w5.cell? ⟨B, 0, none⟩ = some _ := (blkcell hb5 0).trans rfl
        have c51 : w5.cell? ⟨B, 1, none⟩ = some _ := (blkcell hb5 1).trans rfl
        have c52 : w5.cell? ⟨B, 2, none⟩ = some _ := (blkcell hb5 2).trans rfl
        have s51 : w5.cell? ⟨wr.heap.size, 1, none⟩ = some _ := (blkcell hs5 1).trans rfl
        have s52 : w5.cell? ⟨wr.heap.size, 2, none⟩ = some _ := (blkcell hs5 2).trans rfl
        have l5 := h5.lt
        have lB5 := blklt hb5
        go_wp2_with fail
        refine (rt_drop last h _ sl _ _ hv5 hI.tab.fine).mono ?_
        rintro e w6 ⟨v', rfl, hv6, k6⟩
        have hv6' := hv6.mono (ok' := fun b => b ≠ g ∧ b ≠ s ∧ b ≠ B) (by rintro k (h | h) _; exact h; exact ⟨by omega, by omega, by omega⟩)
        clear hv6
        obtain ⟨Ag', cg', At', ct', rfl, _, _⟩ := hv6'.form
        have h6 := h5.still k6
        have hb6 := k6.blk hb5 (fun x => x)
        have hs6 := k6.blk hs5 (fun x => x)
        have f60 := blkfrozen hb6 0
        have f61 := blkfrozen hb6 1
        have f62 := blkfrozen hb6 2
        have c60 : w6.cell? ⟨B, 0, none⟩ = some _ := (blkcell hb6 0).trans rfl
        have c61 : w6.cell? ⟨B, 1, none⟩ = some _ := (blkcell hb6 1).trans rfl
        have c62 : w6.cell? ⟨B, 2, none⟩ = some _ := (blkcell hb6 2).trans rfl
        have hI7 := hI.put3 h6 hb6 hv6' (kk5.trans' k6)
        have ck : Keeps (fun b => b = B) w6 (((w6.setCell ⟨B, 0, none⟩ (.int .i64 last)).setCell ⟨B, 1, none⟩ (.slice Ag' (dropS sl h).length cg')).setCell ⟨B, 2, none⟩ (.slice At' (things (dropS sl h)).length ct')) :=
          (((Keeps.refl (fun b => b = B) _).setCell (.inl rfl) _).setCell (.inl rfl) _).setCell (.inl rfl) _
        have hs7 := ck.blk hs6 (show wr.heap.size ≠ B by omega)
        have hne : (atE sl h != atE sl h) = false := by simp
        clear ck c50 c51 c52 s51 s52 hv5 h5 k5 k5' hb5 hs5
        have hgen : ∃ W, W = (((w6.setCell ⟨B, 0, none⟩ (.int .i64 last)).setCell ⟨B, 1, none⟩ (.slice Ag' (dropS sl h).length cg')).setCell ⟨B, 2, none⟩ (.slice At' (things (dropS sl h)).length ct')) := ⟨_, rfl⟩
        obtain ⟨W, hW⟩ := hgen
        rw [← hW] at hI7 hs7
        have s71 : W.cell? ⟨wr.heap.size, 1, none⟩ = some _ := (blkcell hs7 1).trans rfl
        have c70 : W.cell? ⟨B, 0, none⟩ = some _ := (blkcell hI7.box 0).trans rfl
        have c71 : W.cell? ⟨B, 1, none⟩ = some _ := (blkcell hI7.box 1).trans rfl
        have c72 : W.cell? ⟨B, 2, none⟩ = some _ := (blkcell hI7.box 2).trans rfl
        replace hW := hW.symm
        generalize dropS sl h = sl' at *
        go_wp2_with fail
        refine (as2 g s last h _ sl' _ _ hI7.tab hI7.all).mono ?_
        rintro e w8 ⟨rfl, k8⟩
        clear hW c60 c61 c62 f60 f61 f62
        go_wp2_with fail
        have hj := HJ.out
        go_roundg (gk - 1)
        case measure => omega
        case rel => exact ⟨j + 1, sl', _, _, by go_num, by omega, hI7.still k8⟩
      · have q0 : ((d : Int) % 5 == 0) = false := by simp; omega
        have q1 : ((d : Int) % 5 == 1) = false := by simp; omega
        have q2 : ((d : Int) % 5 == 2) = true := by simp; omega
        clear h5c
        go_wp2_with fail
        clear hwa
        have hSk : ∀ k, wr.heap.size = k → ¬ (k = g ∨ k = s) := by intro k hk; omega
        refine (ar_drop _ _ _ _ h _ hIS.tab).mono ?_
        rintro e w5 ⟨rfl, h5, k5'⟩
        have k5 : Keeps (fun k => k = g ∨ k = s) wa w5 := k5'.mono (fun _ _ h => by first | exact h | exact .inr h)
        have hb5 := k5.blk hIS.box (by rintro (h | h); exact hI.gB h.symm; exact hI.sB h.symm)
        have hs5 := k5.blk hS (hSk _ rfl)
        have hv5 := hIS.all.keeps k5 (by rintro k hk _ (rfl | rfl); exact hk.1 rfl; exact hk.2.1 rfl)
        have kk5 := hIS.kept.trans k5 (fun k hk hp => absurd hp (hw k hk))
        have c50 : w5.cell? ⟨B, 0, none⟩ = some _ := (blkcell hb5 0).trans rfl
        have c51 : w5.cell? ⟨B, 1, none⟩ = some _ := (blkcell hb5 1).trans rfl
        have c52 : w5.cell? ⟨B, 2, none⟩ = some _ := (blkcell hb5 2).trans rfl
        have s51 : w5.cell? ⟨wr.heap.size, 1, none⟩ = some _ := (blkcell hs5 1).trans rfl
        have s52 : w5.cell? ⟨wr.heap.size, 2, none⟩ = some _ := (blkcell hs5 2).trans rfl
        have l5 := h5.lt
        have lB5 := blklt hb5
        go_wp2_with fail
        refine (rt_drop last h _ sl _ _ hv5 hI.tab.fine).mono ?_
        rintro e w6 ⟨v', rfl, hv6, k6⟩
        have hv6' := hv6.mono (ok' := fun b => b ≠ g ∧ b ≠ s ∧ b ≠ B) (by rintro k (h | h) _; exact h; exact ⟨by omega, by omega, by omega⟩)
        clear hv6
        obtain ⟨Ag', cg', At', ct', rfl, _, _⟩ := hv6'.form
        have h6 := h5.still k6
        have hb6 := k6.blk hb5 (fun x => x)
        have hs6 := k6.blk hs5 (fun x => x)
        have f60 := blkfrozen hb6 0
        have f61 := blkfrozen hb6 1
        have f62 := blkfrozen hb6 2
        have c60 : w6.cell? ⟨B, 0, none⟩ = some _ := (blkcell hb6 0).trans rfl
        have c61 : w6.cell? ⟨B, 1, none⟩ = some _ := (blkcell hb6 1).trans rfl
        have c62 : w6.cell? ⟨B, 2, none⟩ = some _ := (blkcell hb6 2).trans rfl
        have hI7 := hI.put3 h6 hb6 hv6' (kk5.trans' k6)
        have ck : Keeps (fun b => b = B) w6 (((w6.setCell ⟨B, 0, none⟩ (.int .i64 last)).setCell ⟨B, 1, none⟩ (.slice Ag' (dropS sl h).length cg')).setCell ⟨B, 2, none⟩ (.slice At' (things (dropS sl h)).length ct')) :=
          (((Keeps.refl (fun b => b = B) _).setCell (.inl rfl) _).setCell (.inl rfl) _).setCell (.inl rfl) _
        have hs7 := ck.blk hs6 (show wr.heap.size ≠ B by omega)
        have hne : (atE sl h != atE sl h) = false := by simp
        clear ck c50 c51 c52 s51 s52 hv5 h5 k5 k5' hb5 hs5
        have hgen : ∃ W, W = (((w6.setCell ⟨B, 0, none⟩ (.int .i64 last)).setCell ⟨B, 1, none⟩ (.slice Ag' (dropS sl h).length cg')).setCell ⟨B, 2, none⟩ (.slice At' (things (dropS sl h)).length ct')) := ⟨_, rfl⟩
        obtain ⟨W, hW⟩ := hgen
        rw [← hW] at hI7 hs7
        have s71 : W.cell? ⟨wr.heap.size, 1, none⟩ = some _ := (blkcell hs7 1).trans rfl
        have c70 : W.cell? ⟨B, 0, none⟩ = some _ := (blkcell hI7.box 0).trans rfl
        have c71 : W.cell? ⟨B, 1, none⟩ = some _ := (blkcell hI7.box 1).trans rfl
        have c72 : W.cell? ⟨B, 2, none⟩ = some _ := (blkcell hI7.box 2).trans rfl
        replace hW := hW.symm
        generalize dropS sl h = sl' at *
        go_wp2_with fail
        refine (as2 g s last h _ sl' _ _ hI7.tab hI7.all).mono ?_
        rintro e w8 ⟨rfl, k8⟩
        clear hW c60 c61 c62 f60 f61 f62
        go_wp2_with fail
        have hj := HJ.out
        go_roundg (gk - 1)
        case measure => omega
        case rel => exact ⟨j + 1, sl', _, _, by go_num, by omega, hI7.still k8⟩
      · have q0 : ((d : Int) % 5 == 0) = false := by simp; omega
        have q1 : ((d : Int) % 5 == 1) = false := by simp; omega
        have q2 : ((d : Int) % 5 == 2) = false := by simp; omega
        clear h5c h5d
        go_wp2_with fail
        clear hwa
        have hSk : ∀ k, wr.heap.size = k → ¬ (k = g ∨ k = s) := by intro k hk; omega
        refine (ar_add _ _ _ _ x _ hIS.tab).mono ?_
        rintro e w5 ⟨rfl, h5, k5'⟩
        have k5 : Keeps (fun k => k = g ∨ k = s) wa w5 := k5'.mono (fun _ _ h => by first | exact h | exact .inr h)
        have hb5 := k5.blk hIS.box (by rintro (h | h); exact hI.gB h.symm; exact hI.sB h.symm)
        have hs5 := k5.blk hS (hSk _ rfl)
        have hv5 := hIS.all.keeps k5 (by rintro k hk _ (rfl | rfl); exact hk.1 rfl; exact hk.2.1 rfl)
        have kk5 := hIS.kept.trans k5 (fun k hk hp => absurd hp (hw k hk))
        have c50 : w5.cell? ⟨B, 0, none⟩ = some _ := (blkcell hb5 0).trans rfl
        have c51 : w5.cell? ⟨B, 1, none⟩ = some _ := (blkcell hb5 1).trans rfl
        have c52 : w5.cell? ⟨B, 2, none⟩ = some _ := (blkcell hb5 2).trans rfl
        have s51 : w5.cell? ⟨wr.heap.size, 1, none⟩ = some _ := (blkcell hs5 1).trans rfl
        have s52 : w5.cell? ⟨wr.heap.size, 2, none⟩ = some _ := (blkcell hs5 2).trans rfl
        have l5 := h5.lt
        have lB5 := blklt hb5
        go_wp2_with fail
        refine (rt_add last x _ sl _ _ hv5 hI.tab.fine).mono ?_
        rintro e w6 ⟨v', rfl, hv6, k6⟩
        have hv6' := hv6.mono (ok' := fun b => b ≠ g ∧ b ≠ s ∧ b ≠ B) (by rintro k (h | h) _; exact h; exact ⟨by omega, by omega, by omega⟩)
        clear hv6
        obtain ⟨Ag', cg', At', ct', rfl, _, _⟩ := hv6'.form
        have h6 := h5.still k6
        have hb6 := k6.blk hb5 (fun x => x)
        have hs6 := k6.blk hs5 (fun x => x)
        have f60 := blkfrozen hb6 0
        have f61 := blkfrozen hb6 1
        have f62 := blkfrozen hb6 2
        have c60 : w6.cell? ⟨B, 0, none⟩ = some _ := (blkcell hb6 0).trans rfl
        have c61 : w6.cell? ⟨B, 1, none⟩ = some _ := (blkcell hb6 1).trans rfl
        have c62 : w6.cell? ⟨B, 2, none⟩ = some _ := (blkcell hb6 2).trans rfl
        have hI7 := hI.put3 h6 hb6 hv6' (kk5.trans' k6)
        have ck : Keeps (fun b => b = B) w6 (((w6.setCell ⟨B, 0, none⟩ (.int .i64 last)).setCell ⟨B, 1, none⟩ (.slice Ag' (addS last sl x).length cg')).setCell ⟨B, 2, none⟩ (.slice At' (things (addS last sl x)).length ct')) :=
          (((Keeps.refl (fun b => b = B) _).setCell (.inl rfl) _).setCell (.inl rfl) _).setCell (.inl rfl) _
        have hs7 := ck.blk hs6 (show wr.heap.size ≠ B by omega)
        have hne : (addE last sl != addE last sl) = false := by simp
        have hne2 : (addH last sl != addH last sl) = false := by simp
        clear ck c50 c51 c52 s51 s52 hv5 h5 k5 k5' hb5 hs5
        have hgen : ∃ W, W = (((w6.setCell ⟨B, 0, none⟩ (.int .i64 last)).setCell ⟨B, 1, none⟩ (.slice Ag' (addS last sl x).length cg')).setCell ⟨B, 2, none⟩ (.slice At' (things (addS last sl x)).length ct')) := ⟨_, rfl⟩
        obtain ⟨W, hW⟩ := hgen
        rw [← hW] at hI7 hs7
        have s71 : W.cell? ⟨wr.heap.size, 1, none⟩ = some _ := (blkcell hs7 1).trans rfl
        have c70 : W.cell? ⟨B, 0, none⟩ = some _ := (blkcell hI7.box 0).trans rfl
        have c71 : W.cell? ⟨B, 1, none⟩ = some _ := (blkcell hI7.box 1).trans rfl
        have c72 : W.cell? ⟨B, 2, none⟩ = some _ := (blkcell hI7.box 2).trans rfl
        replace hW := hW.symm
        generalize addS last sl x = sl' at *
        go_wp2_with fail
        refine (as2 g s last h _ sl' _ _ hI7.tab hI7.all).mono ?_
        rintro e w8 ⟨rfl, k8⟩
        clear hW c60 c61 c62 f60 f61 f62
        go_wp2_with fail
        have hj := HJ.out
        go_roundg (gk - 1)
        case measure => omega
        case rel => exact ⟨j + 1, sl', _, _, by go_num, by omega, hI7.still k8⟩
    · have e : j = len := by omega
      subst e
      have c0 : wr.cell? ⟨B, 0, none⟩ = some _ := (blkcell hI.box 0).trans rfl
      have c1 : wr.cell? ⟨B, 1, none⟩ = some _ := (blkcell hI.box 1).trans rfl
      have c2 : wr.cell? ⟨B, 2, none⟩ = some _ := (blkcell hI.box 2).trans rfl
      go_wp2_with fail
      refine (as2 g s last 4096 _ sl _ _ hI.tab hI.all).mono ?_
      rintro e w4 ⟨rfl, k4⟩
      go_wp2_with fail
      refine (law2_alive _).mono ?_
      rintro e w5 ⟨rfl, k5⟩
      go_wp2
      go_ret
      exact ⟨rfl, (hI.kept.trans' k4).trans' k5⟩
end Go.Proofs.Ytlfccifibhcacaa
