/- A pool of queues (becket/queue): New. -/
import Derived.Test.YtfnlmnpfflnaiaaQn
import Derived.Deep.OwnRows
namespace Go.Proofs.Ytfnlmnpfflnaiaa
open Go.RowKit
set_option linter.unusedVariables false
set_option linter.unusedSimpArgs false

set_option maxHeartbeats 800000 in
theorem pool_new_bad (q r : Int) (w : World) (h : q < 1 ∨ 64 < q ∨ r < 0 ∨ 1024 < r) :
    Calls Try.prog 19 #[.int .i64 q, .int .i64 r] w fun e w' => e = .returned (.tuple #[.pointer none, .int .i64 1]) ∧ w = w' := by
  by_cases h1 : q < 1
  · go_enter Try.func19, Try.ntmps19
    go_wp2
    go_ret2
    exact ⟨rfl, rfl⟩
  · by_cases h2 : 64 < q
    · go_enter Try.func19, Try.ntmps19
      go_wp2
      go_ret2
      exact ⟨rfl, rfl⟩
    · by_cases h3 : r < 0
      · go_enter Try.func19, Try.ntmps19
        go_wp2
        go_ret2
        exact ⟨rfl, rfl⟩
      · go_enter Try.func19, Try.ntmps19
        go_wp2
        go_ret2
        exact ⟨rfl, rfl⟩

theorem Try.infoNode : (Try.prog.info? 76).map (fun i => (i.zero, i.size, i.bytes)) = some (some (.agg #[.int .i64 0, .int .i64 0]), 2, 16) := by kernel_rfl
theorem Try.infoLine : (Try.prog.info? 66).map (fun i => (i.zero, i.size, i.bytes)) = some (some (.agg #[.int .i64 0, .int .i64 0, .int .i64 0]), 3, 24) := by kernel_rfl

def line0 : List Value := [.int .i64 (-1), .int .i64 (-1), .int .i64 0]
def lines0 : Nat → List Value
  | 0 => []
  | n + 1 => lines0 n ++ line0
theorem lines0_len : ∀ n, (lines0 n).length = n * 3
  | 0 => rfl
  | n + 1 => by rw [lines0, List.length_append, lines0_len n]; simp [line0]; omega
theorem lines0_at : ∀ (n q a : Nat), q < n → a < 3 → (lines0 n)[q * 3 + a]? = line0[a]?
  | 0, q, a, h, _ => absurd h (by omega)
  | n + 1, q, a, h, ha => by
    rw [lines0]
    by_cases e : q = n
    · subst e
      rw [List.getElem?_append_right (by rw [lines0_len]; omega), lines0_len]
      congr 1; omega
    · rw [List.getElem?_append_left (by rw [lines0_len]; omega), lines0_at n q a (by omega) ha]

theorem rds_blk (w : World) (cs : Array Value) (t : TypeId) (size : Nat) (hs : cs.size = size) : Rds (fun _ => True) (w.alloc (.cells cs t)) (.slice (some ⟨w.heap.size, 0, none⟩) 1 1) size 1 cs.toList := by
  refine ⟨by simp [hs], _, 1, rfl, Nat.le_refl _, .inr ⟨_, 0, rfl, trivial, by simp, fun j u hj => ?_⟩⟩
  rw [Nat.zero_add, blkcell (heap_alloc_new w _) j]
  simpa using hj

theorem lines_start (R Q : Nat) : Lines R Q (fun _ => 0) (fun _ => -1) (fun _ => -1) (fun _ => 0) (fun _ => []) :=
  ⟨fun _ _ => rfl, fun _ _ => rfl, fun _ _ => rfl, fun _ _ => List.nodup_nil, (fun _ _ _ h => by cases h), (fun _ _ _ _ _ _ h => by cases h)⟩

theorem sumI_nil : ∀ n, sumI (fun _ => []) n = 0
  | 0 => rfl
  | n + 1 => by rw [sumI, sumI_nil n]; rfl

def I0 (i : Nat) : Nat → List Nat := updL (fun _ => []) 0 (List.range i)
theorem I0_zero : I0 0 = fun _ => [] := by funext k; simp [I0, updL]
theorem I0_succ (i : Nat) : updL (I0 i) 0 (I0 i 0 ++ [i]) = I0 (i + 1) := by
  funext k
  simp only [I0, updL]
  by_cases e : k = 0
  · simp [e, List.range_succ]
  · simp [e]
theorem I0_out {i k : Nat} : i ∉ I0 i k := by
  simp only [I0, updL]
  split
  · simp
  · simp

/-- What holds while the lines are made. -/
structure Mk (w wr : World) (R k : Nat) (v : Value) : Prop where
  bg : wr.heap[w.heap.size + 1]? = some (.cells #[.slice (some ⟨w.heap.size, 0, none⟩) R R, v, .int .i64 (-1), .int .i64 (-1), .int .i64 0] 69 (0, 0))
  bN : wr.heap[w.heap.size]? = some (.cells (madeCells #[.int .i64 0, .int .i64 0] (R * 2)) 76 (0, 0))
  own : wr.ownsRow (w.heap.size + 2) 66 3 v k (lines0 k)
  kept : Keeps (fun _ => False) w wr

theorem made00 (n j : Nat) (h : j < n) : (madeCells #[Value.int .i64 0, .int .i64 0] n)[j]? = some (.int .i64 0) := by
  simp only [madeCells]
  rw [Array.getElem?_map, Array.getElem?_range]
  simp only [h, if_true, Option.map_some]
  have : j % 2 = 0 ∨ j % 2 = 1 := by omega
  rcases this with e | e
  · simp [e]
  · simp [e]

theorem Mk.pool {w wr : World} {R Q c : Nat} {A : Option Addr} (h : Mk w wr R Q (.slice A Q c)) (h1 : 1 ≤ Q) (h2 : Q ≤ 64) (h3 : R ≤ 1024) :
    ∃ L, A = some ⟨L, 0, none⟩ ∧ w.heap.size + 2 ≤ L ∧ PoolI wr (w.heap.size + 1) w.heap.size L R Q c (fun _ => 0) (I0 0) 0 := by
  have hcells := fun g hg => h.own.cells (g := g) hg
  have hlt := h.own.lt
  rcases h.own.2 with ⟨_, h0⟩ | ⟨L, cap, cur, hv, hB, hheap, hn, hm, hsz, htake⟩
  · omega
  injection hv with hv1 hv2 hv3
  subst hv1
  refine ⟨L, rfl, hB, _, _, _, _, ⟨⟨_, h.bg⟩, ⟨_, h.bN⟩, ⟨_, hheap⟩, (blkcell h.bg 0).trans rfl, (blkcell h.bg 1).trans rfl, fun j hj => ⟨?_, ?_⟩, fun k lb lo hp => ?_, by omega, by omega, by omega, by omega, h2, h3, by omega⟩, I0_zero ▸ lines_start R Q, by rw [I0_zero, sumI_nil], by omega⟩
  · rw [blkcell h.bN]; exact made00 _ _ (by omega)
  · rw [blkcell h.bN]; exact made00 _ _ (by omega)
  · rcases hp with ⟨_, rfl, rfl⟩ | ⟨q, hq, _, rfl, rfl⟩
    · exact ⟨(blkcell h.bg 2).trans rfl, (blkcell h.bg 3).trans rfl, (blkcell h.bg 4).trans rfl⟩
    · have g : ∀ a, a < 3 → ∀ u, line0[a]? = some u → wr.cell? ⟨_, q * 3 + a, none⟩ = some u := fun a ha u hu => by
        have := hcells _ rfl (q * 3 + a) u ((lines0_at Q q a hq ha).trans hu)
        rwa [add_plain'] at this
      exact ⟨g 0 (by omega) _ rfl, g 1 (by omega) _ rfl, g 2 (by omega) _ rfl⟩

set_option maxHeartbeats 4000000 in
set_option maxRecDepth 100000 in
theorem pool_new (Q R : Nat) (w : World) (h1 : 1 ≤ Q) (h2 : Q ≤ 64) (h3 : R ≤ 1024) :
    Calls Try.prog 19 #[.int .i64 Q, .int .i64 R] w fun e w' => ∃ g N L cap, e = .returned (.tuple #[.pointer (some ⟨g, 0, none⟩), .int .i64 0]) ∧ w.heap.size ≤ g ∧ w.heap.size ≤ N ∧ w.heap.size ≤ L ∧
      PoolI w' g N L R Q cap (fun _ => 0) (I0 R) R ∧ Keeps (fun _ => False) w w' := by
  have a1 : ¬ ((Q : Int) < 1) := by omega
  have a2 : ¬ (64 < (Q : Int)) := by omega
  have a3 : ¬ ((R : Int) < 0) := by omega
  have a4 : ¬ (1024 < (R : Int)) := by omega
  obtain ⟨iN, hiN, hzN, hsN, hbN⟩ := info_parts Try.infoNode
  have hmk : ∀ W : World, (Instr.makeSlice 64 (.int .i64 (R : Int)) (.int .i64 (R : Int))).run Try.prog W = .ok (.slice (some ⟨W.heap.size, 0, none⟩) R R) (W.alloc (.cells (madeCells #[.int .i64 0, .int .i64 0] (R * 2)) 76)) := fun W => by
    have := run_make (P := Try.prog) W 64 76 iN _ Try.underlying64 hiN hzN .i64 .i64 R R (by omega) (Int.le_refl _) (by rw [hbN]; omega) (by omega)
    rw [Int.toNat_natCast, hsN] at this
    exact this
  clear hiN hzN hsN hbN
  go_enter Try.func19, Try.ntmps19
  go_wp2
  have hM : Mk w ((w.alloc (.cells (madeCells #[.int .i64 0, .int .i64 0] (R * 2)) 76)).alloc (.cells #[.slice (some ⟨w.heap.size, 0, none⟩) R R, .slice none 0 0, .int .i64 (-1), .int .i64 (-1), .int .i64 0] 69)) R 0 (.slice none 0 0) := by
    refine ⟨?_, blkalloc (heap_alloc_new w _) _, World.ownsRow_nil _ _ _ _, ((Keeps.refl _ _).alloc _).alloc _⟩
    have := heap_alloc_new (w.alloc (.cells (madeCells #[.int .i64 0, .int .i64 0] (R * 2)) 76)) (.cells #[.slice (some ⟨w.heap.size, 0, none⟩) R R, .slice none 0 0, .int .i64 (-1), .int .i64 (-1), .int .i64 0] 69)
    simpa using this
  clear hmk
  generalize (w.alloc (.cells (madeCells #[.int .i64 0, .int .i64 0] (R * 2)) 76)).alloc (.cells #[.slice (some ⟨w.heap.size, 0, none⟩) R R, .slice none 0 0, .int .i64 (-1), .int .i64 (-1), .int .i64 0] 69) = w0 at *
  go_loopg [28] Q (fun m i wr => ∃ (k : Nat) (v : Value), i = .int .i64 k ∧ k + m = Q ∧ Mk w wr R k v)
  case atStart => exact ⟨0, _, rfl, by omega, hM⟩
  case round =>
    clear hM
    obtain ⟨k, v, rfl, hkm, hM⟩ := hrel
    have HKM := Lib.hid hkm
    have hkQ : k ≤ Q := by omega
    clear hkm
    obtain ⟨A, c, rfl⟩ := own_slice' hM.own
    have c0 : wr.cell? ⟨w.heap.size + 1, 0, none⟩ = some _ := (blkcell hM.bg 0).trans rfl
    have c1 : wr.cell? ⟨w.heap.size + 1, 1, none⟩ = some _ := (blkcell hM.bg 1).trans rfl
    have hglt := blklt hM.bg
    have hsz := hM.kept.size
    by_cases hlt : k < Q
    · have hlt' : (k : Int) < Q := by omega
      go_wp2_with (at_builtin; refine wpList_append_rds _ rfl _ _ 67 rfl (w.heap.size + 2) 66 (.agg #[.int .i64 0, .int .i64 0, .int .i64 0]) 3 24 Try.underlying67 Try.infoLine rfl (by decide) _ _ _ rfl (hM.own.alloc _) _ _ 1 line0 rfl (rds_blk wr #[.int .i64 (-1), .int .i64 (-1), .int .i64 0] 66 3 rfl) ?c1 ?c2 ?c3 ?c4 ?_)
      case c1 => intro u hu; simp [line0] at hu; rcases hu with rfl | rfl <;> rfl
      case c2 => unfold maxLen; omega
      case c3 => omega
      case c4 => rw [World.size_alloc]; omega
      intro A1 p1 w1 hown1 hgrow1 hat1
      have hb1 := grown_blk hgrow1 (blkalloc hM.bg _) (fun e => by have := (hM.own.lt _ e.symm).1; omega)
      have hN1 := grown_blk hgrow1 (blkalloc hM.bN _) (fun e => by have := (hM.own.lt _ e.symm).1; omega)
      have hk1 : Keeps (fun _ => False) w w1 := (hM.kept.alloc _).grown hgrow1 (fun j hj hjlt => by have := (hM.own.lt j hj).1; omega)
      have d1 : w1.cell? ⟨w.heap.size + 1, 1, none⟩ = some _ := (blkcell hb1 1).trans rfl
      have f1 := blkfrozen hb1 1
      have hM1 : Mk w (w1.setCell ⟨w.heap.size + 1, 1, none⟩ (.slice A1 (k + 1) p1)) R (k + 1) (.slice A1 (k + 1) p1) :=
        ⟨by rw [blkset hb1]; rfl, blkfar hN1 (by show w.heap.size ≠ w.heap.size + 1; omega) _, ownsRow_setCell_below (by simpa [lines0] using hown1) (by show w.heap.size + 1 < w.heap.size + 2; omega) _, hk1.setCell (.inr (by show w.heap.size ≤ w.heap.size + 1; omega)) _⟩
      go_wp2
      have hkm := HKM.out
      go_roundg (gk - 1)
      case measure => omega
      case rel => exact ⟨k + 1, _, by go_num, by omega, hM1⟩
    · have e : k = Q := by omega
      subst e
      go_wp2_with fail
      obtain ⟨L, rfl, hL, hP⟩ := hM.pool h1 h2 h3
      have hkept := hM.kept
      clear hM c0 c1
      obtain ⟨wo, hwo⟩ : ∃ wo : World, wo = wr := ⟨_, rfl⟩
      rw [← hwo] at hP hkept hglt hsz ⊢
      clear hwo
      go_loopg [46] R (fun m i wr => ∃ (j : Nat), i = .int .i64 j ∧ j + m = R ∧ PoolI wr (w.heap.size + 1) w.heap.size L R k c (fun _ => 0) (I0 j) j ∧ Keeps (fun _ => False) w wr)
      case atStart => exact ⟨0, rfl, by omega, hP, hkept⟩
      case round =>
        clear hP hkept
        obtain ⟨j, rfl, hjm, hP, hkept⟩ := hrel
        have HJM := Lib.hid hjm
        have hjR : j ≤ R := by omega
        clear hjm
        by_cases hj : j < R
        · have hj' : (j : Int) < R := by omega
          go_wp2_with fail
          refine (poolI_hang (w.heap.size + 1) w.heap.size L R k c 0 (w.heap.size + 1) 2 j j _ _ _ hP (.inl ⟨rfl, rfl, rfl⟩) hj (fun _ _ => I0_out) (by omega)).mono ?_
          rintro e w3 ⟨rfl, hP3, k3⟩
          rw [I0_succ] at hP3
          go_wp2
          have hjm := HJM.out
          go_roundg (gk - 1)
          case measure => omega
          case rel => exact ⟨j + 1, by go_num, by omega, hP3, hkept.trans k3 (by rintro b hb (rfl | rfl | rfl) <;> omega)⟩
        · have e : j = R := by omega
          subst e
          go_wp2
          go_ret2
          exact ⟨_, _, _, _, rfl, by omega, by omega, by omega, hP, hkept⟩
end Go.Proofs.Ytfnlmnpfflnaiaa
