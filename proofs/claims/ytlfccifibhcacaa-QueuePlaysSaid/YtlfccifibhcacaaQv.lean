/- QueuePlays, the walk: the pool and the document's lists answer alike, step by step. -/
import Derived.Test.YtlfccifibhcacaaQk
import Derived.Deep.RegionHeld3
import Derived.Deep.LoopGhost
namespace Go.Proofs.Ytlfccifibhcacaa
open Go.RowKit
set_option linter.unusedVariables false
set_option linter.unusedSimpArgs false

/-- What holds between two rounds. -/
structure Inv3 (w wr : World) (g N L B Q R : Nat) (qs : List (List Int)) (v : Value) : Prop where
  pool : Holds3 wr g N L R Q qs
  box : wr.heap[B]? = some (.cells #[.int .i64 R, v] 72 (0, 0))
  all : RL (fun b => ¬ PB g N L b ∧ b ≠ B) wr v qs
  kept : Keeps (fun _ => False) w wr
  hg : w.heap.size ≤ g
  hN : w.heap.size ≤ N
  hL : w.heap.size ≤ L
  hB : w.heap.size ≤ B
  nB : ¬ PB g N L B

theorem Inv3.still {w wr w' : World} {g N L B Q R : Nat} {qs : List (List Int)} {v : Value} (h : Inv3 w wr g N L B Q R qs v) (hk : Keeps (fun _ => False) wr w') : Inv3 w w' g N L B Q R qs v :=
  ⟨h.pool.still hk, hk.blk h.box (fun x => x), h.all.still hk, h.kept.trans' hk, h.hg, h.hN, h.hL, h.hB, h.nB⟩
theorem Inv3.PBlow {w wr : World} {g N L B Q R : Nat} {qs : List (List Int)} {v : Value} (h : Inv3 w wr g N L B Q R qs v) {k : Nat} (hk : PB g N L k) : w.heap.size ≤ k := by
  rcases hk with rfl | rfl | rfl; exact h.hg; exact h.hN; exact h.hL
theorem Inv3.PBhigh {w wr : World} {g N L B Q R : Nat} {qs : List (List Int)} {v : Value} (h : Inv3 w wr g N L B Q R qs v) {k : Nat} (hk : PB g N L k) : k < wr.heap.size := by
  obtain ⟨a, b, c⟩ := h.pool.lt
  rcases hk with rfl | rfl | rfl <;> assumption

theorem Inv3.step {w wr w5 w6 : World} {g N L B Q R : Nat} {qs qs' : List (List Int)} {v v' : Value} {o : Obj} (h : Inv3 w wr g N L B Q R qs v) (h5 : Holds3 w5 g N L R Q qs') (k5 : Keeps (PB g N L) (wr.alloc o) w5)
    (hv6 : RL (fun b => (¬ PB g N L b ∧ b ≠ B) ∨ w5.heap.size ≤ b) w6 v' qs') (k6 : Keeps (fun _ => False) w5 w6) : Inv3 w ((w6.setCell ⟨B, 0, none⟩ (.int .i64 R)).setCell ⟨B, 1, none⟩ v') g N L B Q R qs' v' := by
  have hBlt := blklt h.box
  have z5 : wr.heap.size < w5.heap.size := by have := k5.size; rw [World.size_alloc] at this; omega
  have kr : Keeps (fun _ => False) wr (wr.alloc o) := (Keeps.refl _ _).alloc _
  have hb5 := k5.blk (kr.blk h.box (fun x => x)) h.nB
  have hb6 := k6.blk hb5 (fun x => x)
  have kB : Keeps (fun b => b = B) w6 ((w6.setCell ⟨B, 0, none⟩ (.int .i64 R)).setCell ⟨B, 1, none⟩ v') := ((Keeps.refl (fun b => b = B) _).setCell (p := ⟨B, 0, none⟩) (.inl rfl) _).setCell (p := ⟨B, 1, none⟩) (.inl rfl) _
  have ng : ¬ g = B := fun e => h.nB (.inl e.symm)
  have nN : ¬ N = B := fun e => h.nB (.inr (.inl e.symm))
  have nL : ¬ L = B := fun e => h.nB (.inr (.inr e.symm))
  refine ⟨((h5.still k6).keeps kB ng nN nL), ?_, ?_, ?_, h.hg, h.hN, h.hL, h.hB, h.nB⟩
  · exact (blkset (blkset hb6 0 _) 1 _).trans rfl
  · refine (hv6.mono (ok' := fun b => ¬ PB g N L b ∧ b ≠ B) (fun k hk _ => ?_)).keeps kB (fun k hk _ e => hk.2 e)
    rcases hk with hk | hk
    · exact hk
    · exact ⟨fun hp => by have := h.PBhigh hp; omega, by omega⟩
  · have hB := h.hB
    exact (((h.kept.trans' kr).trans k5 (fun k hk hp => absurd (h.PBlow hp) (by omega))).trans' k6).trans kB (fun k hk e => by subst e; omega)

theorem Inv3.box_ {w wr w5 w6 : World} {g N L B Q R n : Nat} {qs : List (List Int)} {v v' : Value} {o o' : Obj} (h : Inv3 w wr g N L B Q R qs v) (hn : n = wr.heap.size) (hS : (wr.alloc o).heap[n]? = some o') (k5 : Keeps (PB g N L) (wr.alloc o) w5) (k6 : Keeps (fun _ => False) w5 w6) :
    w5.heap[n]? = some o' ∧ w6.heap[n]? = some o' ∧ ((w6.setCell ⟨B, 0, none⟩ (.int .i64 R)).setCell ⟨B, 1, none⟩ v').heap[n]? = some o' := by
  have hBlt := blklt h.box
  have a5 := k5.blk hS (fun hp => by have := h.PBhigh hp; omega)
  have a6 := k6.blk a5 (fun x => x)
  exact ⟨a5, a6, blkfar (blkfar a6 (by show n ≠ B; omega) _) (by show n ≠ B; omega) _⟩

/-- A slice of steps that came in: a u8 and two ints each. -/
def IsSteps3 (w : World) (A : Option Addr) (len : Nat) (ds : Nat → Nat) (ps xs : Nat → Int) : Prop :=
  0 < len → ∃ b o, A = some ⟨b, o, none⟩ ∧ b < w.heap.size ∧ ∀ i, i < len → w.cell? ⟨b, o + i * 3, none⟩ = some (.int .u8 (ds i)) ∧ w.cell? ⟨b, o + i * 3 + 1, none⟩ = some (.int .i64 (ps i)) ∧ w.cell? ⟨b, o + i * 3 + 2, none⟩ = some (.int .i64 (xs i)) ∧ ds i < 256

set_option maxHeartbeats 4000000 in
set_option maxRecDepth 100000 in
theorem law3_walk (Q R : Nat) (hq1 : 1 ≤ Q) (hq2 : Q ≤ 64) (hroom : R ≤ 1024) (A : Option Addr) (len cap : Nat) (ds : Nat → Nat) (ps xs : Nat → Int) (w : World) (hlen : len ≤ 100) (hcap : len ≤ cap) (hA : IsSteps3 w A len ds ps xs) :
    Calls Try.prog 5 #[.int .i64 Q, .int .i64 R, .slice A len cap] w fun e w' => e = .returned (.bool true) ∧ Keeps (fun _ => False) w w' := by
  have hl1 : ¬ (100 < (len : Int)) := by omega
  have hl2 : ¬ (100 < len) := by omega
  go_enter Try.func5, Try.ntmps5
  go_wp2_with fail
  refine (h3_new _ _ Q R _ hq1 hq2 hroom rfl rfl).mono ?_
  rintro e w1 ⟨g, N, L, rfl, hg, hN, hL, h1, k1⟩
  go_wp2_with fail
  refine (ref3_new Q R _ hq1 hq2 hroom).mono ?_
  rintro e w2 ⟨v0, rfl, hv, k2⟩
  obtain ⟨A0, c0, rfl⟩ := hv.slice_
  rw [List.length_replicate] at hv
  go_wp2_with fail
  have hI : Inv3 w (w2.alloc (.cells #[.int .i64 R, .slice A0 Q c0] 72)) g N L w2.heap.size Q R (List.replicate Q []) (.slice A0 Q c0) := by
    have h2 := h1.still k2
    obtain ⟨l1, l2, l3⟩ := h2.lt
    obtain ⟨m1, m2, m3⟩ := h1.lt
    have hz := k1.size
    have hz2 := k2.size
    have ka : Keeps (fun _ => False) w2 (w2.alloc (.cells #[.int .i64 R, .slice A0 Q c0] 72)) := (Keeps.refl _ _).alloc _
    refine ⟨h2.still ka, heap_alloc_new _ _, (hv.mono (fun k hk hlt => ?_)).still ka, (k1.trans' k2).alloc _, hg, hN, hL, by omega, ?_⟩
    · exact ⟨by rintro (h | h | h) <;> omega, by omega⟩
    · rintro (h | h | h) <;> omega
  generalize w2.alloc (.cells #[.int .i64 R, .slice A0 Q c0] 72) = w3 at *
  generalize w2.heap.size = B at *
  generalize List.replicate Q ([] : List Int) = qs0 at *
  clear h1 k1 k2 hg hN hL hv
  go_loopg [58] len (fun q i wr => ∃ (j : Nat) (qs : List (List Int)) (v : Value), i = .int .i64 j ∧ j + q = len ∧ Inv3 w wr g N L B Q R qs v)
  case atStart => exact ⟨0, qs0, _, rfl, by omega, hI⟩
  case round =>
    clear hI
    obtain ⟨j, qs, v, rfl, hj, hI⟩ := hrel
    have HJ := Lib.hid hj
    have hjl : j ≤ len := by omega
    clear hj
    obtain ⟨Av, cv, rfl⟩ := hI.all.slice_
    by_cases hlt : j < len
    · obtain ⟨b, o, rfl, hb, hx⟩ := hA (by omega)
      obtain ⟨hx0, hx1, hx2, hd⟩ := hx j hlt
      clear hx hA
      have hx0' := (hI.kept.cell (p := ⟨b, o + j * 3, none⟩) hb (fun x => x)).trans hx0
      have hx1' := (hI.kept.cell (p := ⟨b, o + j * 3 + 1, none⟩) hb (fun x => x)).trans hx1
      have hx2' := (hI.kept.cell (p := ⟨b, o + j * 3 + 2, none⟩) hb (fun x => x)).trans hx2
      clear hx0 hx1 hx2
      generalize ds j = d at *
      generalize ps j = p at *
      generalize xs j = x at *
      -- the step's own box
      have hS := heap_alloc_new wr (.cells #[.int .u8 d, .int .i64 p, .int .i64 x] 76)
      have hIS := hI.still ((Keeps.refl (fun _ => False) wr).alloc (.cells #[.int .u8 d, .int .i64 p, .int .i64 x] 76))
      have cS1 : (wr.alloc (.cells #[.int .u8 d, .int .i64 p, .int .i64 x] 76)).cell? ⟨wr.heap.size, 1, none⟩ = some (.int .i64 p) := (blkcell hS 1).trans rfl
      have cS2 : (wr.alloc (.cells #[.int .u8 d, .int .i64 p, .int .i64 x] 76)).cell? ⟨wr.heap.size, 2, none⟩ = some (.int .i64 x) := (blkcell hS 2).trans rfl
      by_cases hd0 : d % 5 = 0
      · have hd0' : ((d : Int) % 5 == 0) = true := by simp; omega
        have z0 := hI.kept.size
        go_wp2_with fail
        refine (h3_remove g N L R Q p x qs _ hIS.pool).mono ?_
        rintro e w5 ⟨rfl, h5, k5⟩
        have hb5 := k5.blk hIS.box hIS.nB
        have hv5 := hIS.all.keeps k5 (fun k hk _ hp => hk.1 hp)
        have hs5 := k5.blk hS (fun hp => by have := hI.PBhigh hp; omega)
        have cb50 : w5.cell? ⟨B, 0, none⟩ = some _ := (blkcell hb5 0).trans rfl
        have cb51 : w5.cell? ⟨B, 1, none⟩ = some _ := (blkcell hb5 1).trans rfl
        have cs51 : w5.cell? ⟨wr.heap.size, 1, none⟩ = some (.int .i64 p) := (blkcell hs5 1).trans rfl
        have cs52 : w5.cell? ⟨wr.heap.size, 2, none⟩ = some (.int .i64 x) := (blkcell hs5 2).trans rfl
        have hsum := hI.pool.sum
        have hlq : qs.length ≤ 64 := by have := hI.pool.len; omega
        go_wp2_with fail
        refine (ref3_remove R p x _ qs _ _ hv5 hlq hsum).mono ?_
        rintro e w6 ⟨v', rfl, hv6, k6⟩
        obtain ⟨A6, c6, rfl⟩ := hv6.slice_
        generalize remQs qs p x = qs' at *
        have hI6 := hI.step h5 k5 hv6 k6
        have hx6 := hI.box_ (v' := .slice A6 qs'.length c6) rfl hS k5 k6
        have hb6 := k6.blk hb5 (fun x => x)
        have cb60 : w6.cell? ⟨B, 0, none⟩ = some _ := (blkcell hb6 0).trans rfl
        have cb61 : w6.cell? ⟨B, 1, none⟩ = some _ := (blkcell hb6 1).trans rfl
        have fb60 := blkfrozen hb6 0
        have fb61 := blkfrozen hb6 1
        have hne : (remQb qs p x != remQb qs p x) = false := by simp
        have cs71 : ((w6.setCell ⟨B, 0, none⟩ (.int .i64 R)).setCell ⟨B, 1, none⟩ (.slice A6 qs'.length c6)).cell? ⟨wr.heap.size, 1, none⟩ = some (.int .i64 p) := (blkcell hx6.2.2 1).trans rfl
        go_wp2_with fail
        refine (as3 g N L R Q p _ qs' _ _ hI6.pool hI6.all).mono ?_
        rintro e w8 ⟨rfl, k8⟩
        have hI8 := hI6.still k8
        go_wp2_with fail
        have hj := HJ.out
        go_roundg (gk - 1)
        case measure => omega
        case rel => exact ⟨j + 1, qs', _, by go_num, by omega, hI8⟩
      · have hd0' : ((d : Int) % 5 == 0) = false := by simp; omega
        by_cases hd1 : d % 5 = 1
        · have hd1' : ((d : Int) % 5 == 1) = true := by simp; omega
          have z0 := hI.kept.size
          go_wp2_with fail
          refine (h3_pop g N L R Q p qs _ hIS.pool).mono ?_
          rintro e w5 ⟨rfl, h5, k5⟩
          have hb5 := k5.blk hIS.box hIS.nB
          have hv5 := hIS.all.keeps k5 (fun k hk _ hp => hk.1 hp)
          have hs5 := k5.blk hS (fun hp => by have := hI.PBhigh hp; omega)
          have cb50 : w5.cell? ⟨B, 0, none⟩ = some _ := (blkcell hb5 0).trans rfl
          have cb51 : w5.cell? ⟨B, 1, none⟩ = some _ := (blkcell hb5 1).trans rfl
          have cs51 : w5.cell? ⟨wr.heap.size, 1, none⟩ = some (.int .i64 p) := (blkcell hs5 1).trans rfl
          have cs52 : w5.cell? ⟨wr.heap.size, 2, none⟩ = some (.int .i64 x) := (blkcell hs5 2).trans rfl
          have hsum := hI.pool.sum
          have hlq : qs.length ≤ 64 := by have := hI.pool.len; omega
          go_wp2_with fail
          refine (ref3_pop R p _ qs _ _ hv5 hlq).mono ?_
          rintro e w6 ⟨v', rfl, hv6, k6⟩
          obtain ⟨A6, c6, rfl⟩ := hv6.slice_
          generalize popQs qs p = qs' at *
          have hI6 := hI.step h5 k5 (hv6.still ((Keeps.refl (fun _ => False) _).alloc (.cells #[.int .i64 R, .slice A6 qs'.length c6] 72))) (k6.alloc (.cells #[.int .i64 R, .slice A6 qs'.length c6] 72))
          have hx6 := hI.box_ (v' := .slice A6 qs'.length c6) rfl hS k5 (k6.alloc (.cells #[.int .i64 R, .slice A6 qs'.length c6] 72))
          have hb6 := (k6.alloc (.cells #[.int .i64 R, .slice A6 qs'.length c6] 72)).blk hb5 (fun x => x)
          have cb60 : (w6.alloc (.cells #[.int .i64 R, .slice A6 qs'.length c6] 72)).cell? ⟨B, 0, none⟩ = some _ := (blkcell hb6 0).trans rfl
          have cb61 : (w6.alloc (.cells #[.int .i64 R, .slice A6 qs'.length c6] 72)).cell? ⟨B, 1, none⟩ = some _ := (blkcell hb6 1).trans rfl
          have fb60 := blkfrozen hb6 0
          have fb61 := blkfrozen hb6 1
          have hne : (popQx qs p != popQx qs p) = false := by simp
          have hne2 : (popQe qs p != popQe qs p) = false := by simp
          have cs71 : (((w6.alloc (.cells #[.int .i64 R, .slice A6 qs'.length c6] 72)).setCell ⟨B, 0, none⟩ (.int .i64 R)).setCell ⟨B, 1, none⟩ (.slice A6 qs'.length c6)).cell? ⟨wr.heap.size, 1, none⟩ = some (.int .i64 p) := (blkcell hx6.2.2 1).trans rfl
          go_wp2_with fail
          refine (as3 g N L R Q p _ qs' _ _ hI6.pool hI6.all).mono ?_
          rintro e w8 ⟨rfl, k8⟩
          have hI8 := hI6.still k8
          go_wp2_with fail
          have hj := HJ.out
          go_roundg (gk - 1)
          case measure => omega
          case rel => exact ⟨j + 1, qs', _, by go_num, by omega, hI8⟩
        · have hd1' : ((d : Int) % 5 == 1) = false := by simp; omega
          have z0 := hI.kept.size
          go_wp2_with fail
          refine (h3_push g N L R Q p x qs _ hIS.pool).mono ?_
          rintro e w5 ⟨rfl, h5, k5⟩
          have hb5 := k5.blk hIS.box hIS.nB
          have hv5 := hIS.all.keeps k5 (fun k hk _ hp => hk.1 hp)
          have hs5 := k5.blk hS (fun hp => by have := hI.PBhigh hp; omega)
          have cb50 : w5.cell? ⟨B, 0, none⟩ = some _ := (blkcell hb5 0).trans rfl
          have cb51 : w5.cell? ⟨B, 1, none⟩ = some _ := (blkcell hb5 1).trans rfl
          have cs51 : w5.cell? ⟨wr.heap.size, 1, none⟩ = some (.int .i64 p) := (blkcell hs5 1).trans rfl
          have cs52 : w5.cell? ⟨wr.heap.size, 2, none⟩ = some (.int .i64 x) := (blkcell hs5 2).trans rfl
          have hsum := hI.pool.sum
          have hlq : qs.length ≤ 64 := by have := hI.pool.len; omega
          go_wp2_with fail
          refine (ref3_push R p x _ qs _ _ hv5 hroom hlq hsum).mono ?_
          rintro e w6 ⟨v', rfl, hv6, k6⟩
          obtain ⟨A6, c6, rfl⟩ := hv6.slice_
          generalize pushQs R qs p x = qs' at *
          have hI6 := hI.step h5 k5 hv6 k6
          have hx6 := hI.box_ (v' := .slice A6 qs'.length c6) rfl hS k5 k6
          have hb6 := k6.blk hb5 (fun x => x)
          have cb60 : w6.cell? ⟨B, 0, none⟩ = some _ := (blkcell hb6 0).trans rfl
          have cb61 : w6.cell? ⟨B, 1, none⟩ = some _ := (blkcell hb6 1).trans rfl
          have fb60 := blkfrozen hb6 0
          have fb61 := blkfrozen hb6 1
          have hne : (pushQe R qs p != pushQe R qs p) = false := by simp
          have cs71 : ((w6.setCell ⟨B, 0, none⟩ (.int .i64 R)).setCell ⟨B, 1, none⟩ (.slice A6 qs'.length c6)).cell? ⟨wr.heap.size, 1, none⟩ = some (.int .i64 p) := (blkcell hx6.2.2 1).trans rfl
          go_wp2_with fail
          refine (as3 g N L R Q p _ qs' _ _ hI6.pool hI6.all).mono ?_
          rintro e w8 ⟨rfl, k8⟩
          have hI8 := hI6.still k8
          go_wp2_with fail
          have hj := HJ.out
          go_roundg (gk - 1)
          case measure => omega
          case rel => exact ⟨j + 1, qs', _, by go_num, by omega, hI8⟩
    · have e : j = len := by omega
      subst e
      have cb0 : wr.cell? ⟨B, 0, none⟩ = some _ := (blkcell hI.box 0).trans rfl
      have cb1 : wr.cell? ⟨B, 1, none⟩ = some _ := (blkcell hI.box 1).trans rfl
      go_wp2_with fail
      refine (as3 g N L R Q 0 _ qs _ _ hI.pool hI.all).mono ?_
      rintro e w4 ⟨rfl, k4⟩
      go_wp2_with fail
      refine (law3_alive _).mono ?_
      rintro e w5 ⟨rfl, k5⟩
      go_wp2
      go_ret
      exact ⟨rfl, (hI.kept.trans' k4).trans' k5⟩
end Go.Proofs.Ytlfccifibhcacaa
