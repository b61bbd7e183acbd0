/- RingsPlay, the walk: the ring and the document's list answer alike, step by step. -/
import Derived.Test.YtlfccifibhcacaaRh
import Derived.Deep.RegionHeld3
import Derived.Deep.LoopGhost
import Derived.Deep.DeepCutAuto
import Derived.Deep.CutBlock
namespace Go.Proofs.Ytlfccifibhcacaa
open Go.RowKit
set_option linter.unusedVariables false
set_option linter.unusedSimpArgs false

theorem h7_new (a : Int) (n : Nat) (w : World) (h : n ≤ 1024) (ha : a = n) :
    Calls Try.prog 8 #[.int .i64 a] w fun e w' => ∃ g s, e = .returned (.tuple #[.pointer (some ⟨g, 0, none⟩), .int .i64 0]) ∧ w.heap.size ≤ g ∧ w.heap.size ≤ s ∧ Holds7 w' g s n [] ∧ Keeps (fun _ => False) w w' :=
  (ring_new' a n w h ha).mono fun _ _ ⟨g, s, h1, h2, h3, h4, h5⟩ => ⟨g, s, h1, h2, h3, ⟨_, 0, 0, h4, rfl⟩, h5⟩

/-- What holds between two rounds. -/
structure Inv7 (w wr : World) (g s B room : Nat) (l : List Int) (v : Value) : Prop where
  ring : Holds7 wr g s room l
  box : wr.heap[B]? = some (.cells #[.int .i64 room, v] 30 (0, 0))
  all : Rds (fun b => b ≠ g ∧ b ≠ s ∧ b ≠ B) wr v 1 l.length (ints l)
  kept : Keeps (fun _ => False) w wr
  hg : w.heap.size ≤ g
  hs : w.heap.size ≤ s
  hB : w.heap.size ≤ B
  gB : g ≠ B
  sB : s ≠ B

theorem Inv7.still {w wr w' : World} {g s B room : Nat} {l : List Int} {v : Value} (h : Inv7 w wr g s B room l v) (hk : Keeps (fun _ => False) wr w') : Inv7 w w' g s B room l v :=
  ⟨h.ring.keeps hk (fun x => x) (fun x => x), hk.blk h.box (fun x => x), h.all.keeps hk (fun _ _ _ x => x), h.kept.trans' hk, h.hg, h.hs, h.hB, h.gB, h.sB⟩

theorem cell_lt {w : World} {p : Addr} {v : Value} (h : w.cell? p = some v) : p.block < w.heap.size := World.block_lt_of_cell? w p h

theorem Inv7.put {w wr w5 : World} {g s B room : Nat} {l l' : List Int} {v v0 v' : Value} (h : Inv7 w wr g s B room l v) (hr : Holds7 w5 g s room l') (hb : w5.heap[B]? = some (.cells #[.int .i64 room, v0] 30 (0, 0)))
    (hv : Rds (fun b => b ≠ g ∧ b ≠ s ∧ b ≠ B) w5 v' 1 l'.length (ints l')) (hk : Keeps (fun _ => False) w w5) : Inv7 w (w5.setCell ⟨B, 1, none⟩ v') g s B room l' v' := by
  have hB := h.hB
  have k1 : Keeps (fun b => b = B) w5 (w5.setCell ⟨B, 1, none⟩ v') := (Keeps.refl (fun b => b = B) _).setCell (.inl rfl) _
  refine ⟨hr.keeps k1 h.gB h.sB, by rw [blkset hb]; rfl, hv.keeps k1 (fun _ x _ => x.2.2), hk.setCell (p := ⟨B, 1, none⟩) (.inr hB) _, h.hg, h.hs, h.hB, h.gB, h.sB⟩

theorem Inv7.put2 {w wr w5 : World} {g s B room : Nat} {l l' : List Int} {v v0 v' : Value} (h : Inv7 w wr g s B room l v) (hr : Holds7 w5 g s room l') (hb : w5.heap[B]? = some (.cells #[.int .i64 room, v0] 30 (0, 0)))
    (hv : Rds (fun b => b ≠ g ∧ b ≠ s ∧ b ≠ B) w5 v' 1 l'.length (ints l')) (hk : Keeps (fun _ => False) w w5) : Inv7 w ((w5.setCell ⟨B, 0, none⟩ (.int .i64 room)).setCell ⟨B, 1, none⟩ v') g s B room l' v' := by
  have hB := h.hB
  have k1 : Keeps (fun b => b = B) w5 (w5.setCell ⟨B, 0, none⟩ (.int .i64 room)) := (Keeps.refl (fun b => b = B) _).setCell (.inl rfl) _
  exact Inv7.put (v0 := v0) h (hr.keeps k1 h.gB h.sB) (by rw [blkset hb]; rfl) (hv.keeps k1 (fun _ x _ => x.2.2)) (hk.setCell (p := ⟨B, 0, none⟩) (.inr hB) _)

set_option maxHeartbeats 4000000 in
set_option maxRecDepth 100000 in
theorem law7_walk (room : Nat) (hroom : room ≤ 1024) (A : Option Addr) (len cap : Nat) (ds : Nat → Nat) (xs : Nat → Int) (w : World) (hlen : len ≤ 100) (hcap : len ≤ cap)
    (hA : 0 < len → ∃ b o, A = some ⟨b, o, none⟩ ∧ b < w.heap.size ∧ ∀ i, i < len → w.cell? ⟨b, o + i * 2, none⟩ = some (.int .u8 (ds i)) ∧ w.cell? ⟨b, o + i * 2 + 1, none⟩ = some (.int .i64 (xs i)) ∧ ds i < 256) :
    Calls Try.prog 3 #[.int .i64 room, .slice A len cap] w fun e w' => e = .returned (.bool true) ∧ Keeps (fun _ => False) w w' := by
  have hl1 : ¬ (100 < (len : Int)) := by omega
  have hl2 : ¬ (100 < len) := by omega
  go_enter Try.func3, Try.ntmps3
  go_wp2_with fail
  refine (h7_new _ room _ hroom rfl).mono ?_
  rintro e w1 ⟨g, s, rfl, hg, hs, h1, k1⟩
  go_wp2_with fail
  refine (ref7_new _ _ (by omega) (by omega)).mono ?_
  rintro e w2 ⟨rfl, k2⟩
  go_wp2_with fail
  have hI : Inv7 w (w2.alloc (.cells #[.int .i64 room, .slice none 0 0] 30)) g s w2.heap.size room [] (.slice none 0 0) := by
    have h2 := h1.keeps k2 (fun x => x) (fun x => x)
    have hlt := h2.lt
    have hz := k1.size
    have hz2 := k2.size
    exact ⟨h2.keeps ((Keeps.refl (fun _ => False) _).alloc _) (fun x => x) (fun x => x), heap_alloc_new _ _, Rds.nil_ _ _ _ _ _, (k1.trans' k2).alloc _, hg, hs, by omega, by omega, by omega⟩
  generalize w2.alloc (.cells #[.int .i64 room, .slice none 0 0] 30) = w3 at *
  generalize w2.heap.size = B at *
  clear h1 k1 k2 hg hs
  go_loopg [56] len (fun q i wr => ∃ (j : Nat) (l : List Int) (v : Value), i = .int .i64 j ∧ j + q = len ∧ Inv7 w wr g s B room l v)
  case atStart => exact ⟨0, [], _, rfl, by omega, hI⟩
  case round =>
    clear hI
    obtain ⟨j, l, v, rfl, hj, hI⟩ := hrel
    have HJ := Lib.hid hj
    have hjl : j ≤ len := by omega
    clear hj
    by_cases hlt : j < len
    · obtain ⟨b, o, rfl, hb, hx⟩ := hA (by omega)
      obtain ⟨hx0, hx1, hd⟩ := hx j hlt
      clear hx hA
      have hx0' := (hI.kept.cell (p := ⟨b, o + j * 2, none⟩) hb (fun x => x)).trans hx0
      have hx1' := (hI.kept.cell (p := ⟨b, o + j * 2 + 1, none⟩) hb (fun x => x)).trans hx1
      clear hx0 hx1
      generalize ds j = d at *
      generalize xs j = x at *
      -- the step's own box
      have hS := heap_alloc_new wr (.cells #[.int .u8 d, .int .i64 x] 34)
      have hIS := hI.still ((Keeps.refl (fun _ => False) wr).alloc (.cells #[.int .u8 d, .int .i64 x] 34))
      have hSg : wr.heap.size ≠ g := by have := hI.ring.lt; omega
      have hSs : wr.heap.size ≠ s := by have := hI.ring.lt; omega
      have hSB : wr.heap.size ≠ B := by have := blklt hI.box; omega
      have hSw : w.heap.size ≤ wr.heap.size := hI.kept.size
      by_cases hd0 : d = 0
      · subst hd0
        go_wp2_with fail
        refine (h7_clear _ _ _ _ _ hIS.ring).mono ?_
        rintro e w5 ⟨rfl, h5, k5⟩
        have hb5 := k5.blk hIS.box (by rintro (h | h); exact hI.gB h.symm; exact hI.sB h.symm)
        have fb5 := blkfrozen hb5 1
        have cb5 : w5.cell? ⟨B, 1, none⟩ = some _ := (blkcell hb5 1).trans rfl
        have cs5 : w5.cell? ⟨wr.heap.size, 1, none⟩ = some (.int .i64 x) := (blkcell (k5.blk hS (by rintro (h | h); exact hSg h; exact hSs h)) 1).trans rfl
        have hI6 := Inv7.put hI h5 hb5 (Rds.nil_ (fun b => b ≠ g ∧ b ≠ s ∧ b ≠ B) w5 1 none 0) (hIS.kept.trans k5 (by rintro k hk (rfl | rfl); exact absurd hI.hg (by omega); exact absurd hI.hs (by omega)))
        have cs6 : (w5.setCell ⟨B, 1, none⟩ (.slice none 0 0)).cell? ⟨wr.heap.size, 1, none⟩ = some (.int .i64 x) := (((Keeps.refl (fun b => b = B) w5).setCell (p := ⟨B, 1, none⟩) (.inl rfl) _).cell (p := ⟨wr.heap.size, 1, none⟩) (by have := k5.size; simp at this; show wr.heap.size < _; omega) hSB).trans cs5
        go_wp2_with fail
        generalize w5.setCell ⟨B, 1, none⟩ (.slice none 0 0) = w6 at *
        clear hIS hS h5 k5 hb5 fb5 cb5 cs5
        refine (h7_at _ _ _ _ _ _ hI6.ring).mono ?_
        rintro e w8 ⟨rfl, k8⟩
        have hI8 := hI6.still k8
        have cs8 := (k8.cell (p := ⟨wr.heap.size, 1, none⟩) (cell_lt cs6) (fun x => x)).trans cs6
        have cb80 : w8.cell? ⟨B, 0, none⟩ = some _ := (blkcell hI8.box 0).trans rfl
        have cb81 : w8.cell? ⟨B, 1, none⟩ = some _ := (blkcell hI8.box 1).trans rfl
        clear hI6 cs6
        go_wp2_with fail
        refine (r7_at _ _ _ _ _ _ hI8.all).mono ?_
        rintro e w9 ⟨rfl, k9⟩
        have hI9 := hI8.still k9
        clear cb80 cb81 cs8 k8 k9 hI8
        have cb91 : w9.cell? ⟨B, 1, none⟩ = some _ := (blkcell hI9.box 1).trans rfl
        have ne1 : (atX ([] : List Int) x != atX ([] : List Int) x) = false := by simp
        have ne2 : (atE ([] : List Int) x != atE ([] : List Int) x) = false := by simp
        go_wp2_with fail
        have hD := hI9.still ((Keeps.refl (fun _ => False) w9).drew)
        have hlen' := hI9.ring.len
        have hroom' := hI9.ring.room
        go_region_held3 (fun W => W.cell? ⟨B, 1, none⟩ = some (.slice none 0 0) ∧ Inv7 w W g s B room ([] : List Int) (.slice none 0 0)) (first | exact ⟨(blkcell h11.box 1).trans rfl, h11⟩ | exact ⟨(blkcell h10.box 1).trans rfl, h10⟩ | exact ⟨(blkcell hD.box 1).trans rfl, hD⟩)
          (first | (go_at_call 18; refine (h7_list g s room ([] : List Int) _ hD.ring).mono ?_; rintro e w10 ⟨u, rfl, hu, k10⟩; obtain ⟨A10, c10, rfl⟩ := hu.slice_; have h10 := hD.still k10)
                 | (go_at_call 17; refine (ref2_same 0 _ _ ([] : List Int) ([] : List Int) _ _ _ hu h10.all (by omega)).mono ?_; rintro e w11 ⟨rfl, q11, rfl⟩; have h11 := h10.still ((Keeps.refl (fun _ => False) _).drewN q11))
                 | (go_at_call 19; refine (h7_len g s room ([] : List Int) _ h11.ring).mono ?_; rintro e w12 ⟨rfl, rfl⟩)
                 | (go_at_call 20; refine (h7_room g s room ([] : List Int) _ h11.ring).mono ?_; rintro e w13 ⟨rfl, rfl⟩))
        go_wp2_with fail
        have hj := HJ.out
        go_roundg (gk - 1)
        case measure => omega
        case rel => exact ⟨j + 1, ([] : List Int), _, by go_num, by omega, h11⟩
      · have hd0' : ((d : Int) == 0) = false := by simpa using hd0
        by_cases hd3 : d % 3 = 0
        · have hd3' : ((d : Int) % 3 == 0) = true := by simp; omega
          go_wp2_with fail
          refine (h7_pop _ _ _ _ _ hIS.ring).mono ?_
          rintro e w5 ⟨rfl, h5, k5⟩
          have hb5 := k5.blk hIS.box (by rintro (h | h); exact hI.gB h.symm; exact hI.sB h.symm)
          have hv5 := hIS.all.keeps k5 (by rintro k hk _ (rfl | rfl); exact hk.1 rfl; exact hk.2.1 rfl)
          have cb50 : w5.cell? ⟨B, 0, none⟩ = some _ := (blkcell hb5 0).trans rfl
          have cb51 : w5.cell? ⟨B, 1, none⟩ = some _ := (blkcell hb5 1).trans rfl
          have kk5 := hIS.kept.trans k5 (by rintro k hk (rfl | rfl); exact absurd hI.hg (by omega); exact absurd hI.hs (by omega))
          go_wp2_with fail
          refine (r7_pop _ _ _ _ _ hv5).mono ?_
          rintro e w6 ⟨v', rfl, hv6, k6⟩
          generalize l.tail = l' at *
          have h6 := h5.keeps k6 (fun x => x) (fun x => x)
          have hb6 := k6.blk hb5 (fun x => x)
          have fb60 := blkfrozen hb6 0
          have fb61 := blkfrozen hb6 1
          have cb60 : w6.cell? ⟨B, 0, none⟩ = some _ := (blkcell hb6 0).trans rfl
          have cb61 : w6.cell? ⟨B, 1, none⟩ = some _ := (blkcell hb6 1).trans rfl
          have hBlt := blklt hb6
          obtain ⟨A', c', rfl⟩ := hv6.slice_
          have hI6 := (Inv7.put2 hI h6 hb6 hv6 (kk5.trans' k6)).still ((Keeps.refl (fun _ => False) _).alloc (.cells #[.int .i64 room, .slice A' l'.length c'] 30))
          have hne : (popX l != popX l) = false := by simp
          have hne' : (popE l != popE l) = false := by simp
          have hz5 : wr.heap.size < w5.heap.size := by have := k5.size; rw [World.size_alloc] at this; omega
          have hz6 : wr.heap.size < w6.heap.size := by have := k6.size; omega
          have ck : Keeps (fun b => b = B) w6 (((w6.setCell ⟨B, 0, none⟩ (.int .i64 room)).setCell ⟨B, 1, none⟩ (.slice A' l'.length c')).alloc (.cells #[.int .i64 room, .slice A' l'.length c'] 30)) :=
            (((Keeps.refl (fun b => b = B) _).setCell (.inl rfl) _).setCell (.inl rfl) _).alloc _
          have cs6 := (ck.cell (p := ⟨wr.heap.size, 1, none⟩) hz6 hSB).trans
              ((k6.cell (p := ⟨wr.heap.size, 1, none⟩) hz5 (fun x => x)).trans ((blkcell (k5.blk hS (by rintro (h | h); exact hSg h; exact hSs h)) 1).trans rfl))
          clear ck
          go_wp2_with fail
          generalize ((w6.setCell ⟨B, 0, none⟩ (.int .i64 room)).setCell ⟨B, 1, none⟩ (.slice A' l'.length c')).alloc (.cells #[.int .i64 room, .slice A' l'.length c'] 30) = w7 at *
          clear hIS hS h5 k5 hb5 hv5 cb50 cb51 kk5 hv6 k6 h6 hb6 fb60 fb61 cb60 cb61 hBlt
          refine (h7_at _ _ _ _ _ _ hI6.ring).mono ?_
          rintro e w8 ⟨rfl, k8⟩
          have hI8 := hI6.still k8
          have cs8 := (k8.cell (p := ⟨wr.heap.size, 1, none⟩) (cell_lt cs6) (fun x => x)).trans cs6
          have cb80 : w8.cell? ⟨B, 0, none⟩ = some _ := (blkcell hI8.box 0).trans rfl
          have cb81 : w8.cell? ⟨B, 1, none⟩ = some _ := (blkcell hI8.box 1).trans rfl
          clear hI6 cs6
          go_wp2_with fail
          refine (r7_at _ _ _ _ _ _ hI8.all).mono ?_
          rintro e w9 ⟨rfl, k9⟩
          have hI9 := hI8.still k9
          clear cb80 cb81 cs8 k8 k9 hI8
          have cb91 : w9.cell? ⟨B, 1, none⟩ = some _ := (blkcell hI9.box 1).trans rfl
          have ne1 : (atX l' x != atX l' x) = false := by simp
          have ne2 : (atE l' x != atE l' x) = false := by simp
          go_wp2_with fail
          have hD := hI9.still ((Keeps.refl (fun _ => False) w9).drew)
          have hlen' := hI9.ring.len
          have hroom' := hI9.ring.room
          go_region_held3 (fun W => W.cell? ⟨B, 1, none⟩ = some (.slice A' l'.length c') ∧ Inv7 w W g s B room l' (.slice A' l'.length c')) (first | exact ⟨(blkcell h11.box 1).trans rfl, h11⟩ | exact ⟨(blkcell h10.box 1).trans rfl, h10⟩ | exact ⟨(blkcell hD.box 1).trans rfl, hD⟩)
            (first | (go_at_call 18; refine (h7_list g s room l' _ hD.ring).mono ?_; rintro e w10 ⟨u, rfl, hu, k10⟩; obtain ⟨A10, c10, rfl⟩ := hu.slice_; have h10 := hD.still k10)
                   | (go_at_call 17; refine (ref2_same l'.length _ _ l' l' _ _ _ hu h10.all (by omega)).mono ?_; rintro e w11 ⟨rfl, q11, rfl⟩; have h11 := h10.still ((Keeps.refl (fun _ => False) _).drewN q11))
                   | (go_at_call 19; refine (h7_len g s room l' _ h11.ring).mono ?_; rintro e w12 ⟨rfl, rfl⟩)
                   | (go_at_call 20; refine (h7_room g s room l' _ h11.ring).mono ?_; rintro e w13 ⟨rfl, rfl⟩))
          go_wp2_with fail
          have hj := HJ.out
          go_roundg (gk - 1)
          case measure => omega
          case rel => exact ⟨j + 1, l', _, by go_num, by omega, h11⟩
        · have hd3' : ((d : Int) % 3 == 0) = false := by simp; omega
          have cS1 : (wr.alloc (.cells #[.int .u8 d, .int .i64 x] 34)).cell? ⟨wr.heap.size, 1, none⟩ = some (.int .i64 x) := (blkcell hS 1).trans rfl
          go_wp2_with fail
          refine (h7_push _ _ _ _ _ _ hIS.ring).mono ?_
          rintro e w5 ⟨rfl, h5, k5⟩
          have hlen5 := hIS.ring.len
          have hb5 := k5.blk hIS.box (by rintro (h | h); exact hI.gB h.symm; exact hI.sB h.symm)
          have hv5 := hIS.all.keeps k5 (by rintro k hk _ (rfl | rfl); exact hk.1 rfl; exact hk.2.1 rfl)
          have cb50 : w5.cell? ⟨B, 0, none⟩ = some _ := (blkcell hb5 0).trans rfl
          have cb51 : w5.cell? ⟨B, 1, none⟩ = some _ := (blkcell hb5 1).trans rfl
          have kk5 := hIS.kept.trans k5 (by rintro k hk (rfl | rfl); exact absurd hI.hg (by omega); exact absurd hI.hs (by omega))
          have cs5 : w5.cell? ⟨wr.heap.size, 1, none⟩ = some (.int .i64 x) := (blkcell (k5.blk hS (by rintro (h | h); exact hSg h; exact hSs h)) 1).trans rfl
          have hl5 := h5.lt
          go_wp2_with fail
          refine (r7_push _ _ _ _ _ _ hv5 hlen5 hroom).mono ?_
          rintro e w6 ⟨v', rfl, hv6, k6⟩
          have hv6' := hv6.mono (ok' := fun b => b ≠ g ∧ b ≠ s ∧ b ≠ B) (by have := blklt hb5; rintro k (h | h) _; exact h; exact ⟨by omega, by omega, by omega⟩)
          clear hv6
          generalize pushL room l x = l' at *
          have h6 := h5.keeps k6 (fun x => x) (fun x => x)
          have hb6 := k6.blk hb5 (fun x => x)
          have fb60 := blkfrozen hb6 0
          have fb61 := blkfrozen hb6 1
          have cb60 : w6.cell? ⟨B, 0, none⟩ = some _ := (blkcell hb6 0).trans rfl
          have cb61 : w6.cell? ⟨B, 1, none⟩ = some _ := (blkcell hb6 1).trans rfl
          have hBlt := blklt hb6
          obtain ⟨A', c', rfl⟩ := hv6'.slice_
          have hI6 := Inv7.put2 hI h6 hb6 hv6' (kk5.trans' k6)
          have hne : (pushE room l != pushE room l) = false := by simp
          have hz5 : wr.heap.size < w5.heap.size := cell_lt cs5
          have hz6 : wr.heap.size < w6.heap.size := by have := k6.size; omega
          have ck : Keeps (fun b => b = B) w6 ((w6.setCell ⟨B, 0, none⟩ (.int .i64 room)).setCell ⟨B, 1, none⟩ (.slice A' l'.length c')) :=
            ((Keeps.refl (fun b => b = B) _).setCell (.inl rfl) _).setCell (.inl rfl) _
          have cs6 := (ck.cell (p := ⟨wr.heap.size, 1, none⟩) hz6 hSB).trans ((k6.cell (p := ⟨wr.heap.size, 1, none⟩) hz5 (fun x => x)).trans cs5)
          clear ck
          go_wp2_with fail
          generalize (w6.setCell ⟨B, 0, none⟩ (.int .i64 room)).setCell ⟨B, 1, none⟩ (.slice A' l'.length c') = w7 at *
          clear hIS hS h5 k5 hb5 hv5 cb50 cb51 kk5 hv6' k6 h6 hb6 fb60 fb61 cb60 cb61 hBlt
          refine (h7_at _ _ _ _ _ _ hI6.ring).mono ?_
          rintro e w8 ⟨rfl, k8⟩
          have hI8 := hI6.still k8
          have cs8 := (k8.cell (p := ⟨wr.heap.size, 1, none⟩) (cell_lt cs6) (fun x => x)).trans cs6
          have cb80 : w8.cell? ⟨B, 0, none⟩ = some _ := (blkcell hI8.box 0).trans rfl
          have cb81 : w8.cell? ⟨B, 1, none⟩ = some _ := (blkcell hI8.box 1).trans rfl
          clear hI6 cs6
          go_wp2_with fail
          refine (r7_at _ _ _ _ _ _ hI8.all).mono ?_
          rintro e w9 ⟨rfl, k9⟩
          have hI9 := hI8.still k9
          clear cb80 cb81 cs8 k8 k9 hI8
          have cb91 : w9.cell? ⟨B, 1, none⟩ = some _ := (blkcell hI9.box 1).trans rfl
          have ne1 : (atX l' x != atX l' x) = false := by simp
          have ne2 : (atE l' x != atE l' x) = false := by simp
          go_wp2_with fail
          have hD := hI9.still ((Keeps.refl (fun _ => False) w9).drew)
          have hlen' := hI9.ring.len
          have hroom' := hI9.ring.room
          go_region_held3 (fun W => W.cell? ⟨B, 1, none⟩ = some (.slice A' l'.length c') ∧ Inv7 w W g s B room l' (.slice A' l'.length c')) (first | exact ⟨(blkcell h11.box 1).trans rfl, h11⟩ | exact ⟨(blkcell h10.box 1).trans rfl, h10⟩ | exact ⟨(blkcell hD.box 1).trans rfl, hD⟩)
            (first | (go_at_call 18; refine (h7_list g s room l' _ hD.ring).mono ?_; rintro e w10 ⟨u, rfl, hu, k10⟩; obtain ⟨A10, c10, rfl⟩ := hu.slice_; have h10 := hD.still k10)
                   | (go_at_call 17; refine (ref2_same l'.length _ _ l' l' _ _ _ hu h10.all (by omega)).mono ?_; rintro e w11 ⟨rfl, q11, rfl⟩; have h11 := h10.still ((Keeps.refl (fun _ => False) _).drewN q11))
                   | (go_at_call 19; refine (h7_len g s room l' _ h11.ring).mono ?_; rintro e w12 ⟨rfl, rfl⟩)
                   | (go_at_call 20; refine (h7_room g s room l' _ h11.ring).mono ?_; rintro e w13 ⟨rfl, rfl⟩))
          go_wp2_with fail
          have hj := HJ.out
          go_roundg (gk - 1)
          case measure => omega
          case rel => exact ⟨j + 1, l', _, by go_num, by omega, h11⟩
    · have e : j = len := by omega
      subst e
      go_wp2_with fail
      refine (law7_alive _).mono ?_
      rintro e w4 ⟨rfl, k4⟩
      go_wp2
      go_ret
      exact ⟨rfl, hI.kept.trans' k4⟩
end Go.Proofs.Ytlfccifibhcacaa
