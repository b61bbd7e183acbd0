/- A table of slots (becket/arena) in memory: Add and New. -/
import Derived.Test.YtlfccifibhcacaaAh
import Derived.Lib.SliceRun
namespace Go.Proofs.Ytlfccifibhcacaa
open Go.RowKit
set_option linter.unusedVariables false
set_option linter.unusedSimpArgs false

theorem firstO_at {last : Int} {sl : List ASlot} {k : Nat} (hk : k < sl.length) (ho : openS last (sAt sl k) = true) (hno : ∀ j, j < k → openS last (sAt sl j) = false) : firstO last sl = k := by
  refine (List.findIdx_eq hk).2 ⟨by rw [sAt_get hk]; exact ho, fun j hj => ?_⟩
  rw [sAt_get (by omega)]; exact hno j hj
theorem firstO_none {last : Int} {sl : List ASlot} (hno : ∀ j, j < sl.length → openS last (sAt sl j) = false) : ¬ firstO last sl < sl.length := by
  intro h
  have h1 := List.findIdx_getElem (w := h)
  have h2 : openS last (sAt sl (firstO last sl)) = true := by rw [← sAt_get h]; exact h1
  rw [hno _ h] at h2
  cases h2

theorem Slots.put3 {w : World} {s : Nat} {sl : List ASlot} (h : Slots w s sl) {i : Nat} (hi : i < sl.length) (v : Int) (u : Bool) (x : Int) :
    Slots (((w.setCell ⟨s, i * 3, none⟩ (.int .i64 v)).setCell ⟨s, i * 3 + 1, none⟩ (.bool u)).setCell ⟨s, i * 3 + 2, none⟩ (.int .i64 x)) s (sl.set i ⟨v, u, x⟩) := by
  have h2 := (h.setG hi v).setU (i := i) (by simpa using hi) u
  rw [sAt_set _ _ _ _ hi, if_pos rfl, List.set_set] at h2
  have h3 := h2.setX (i := i) (by simpa using hi) x
  rw [sAt_set _ _ _ _ hi, if_pos rfl, List.set_set] at h3
  exact h3

set_option maxHeartbeats 1600000 in
theorem ar_add (g s : Nat) (last : Int) (sl : List ASlot) (x : Int) (w : World) (ha : HoldsA w g s last sl) :
    Calls Try.prog 28 #[.pointer (some ⟨g, 0, none⟩), .int .i64 x] w fun e w' => e = .returned (.tuple #[.int .i64 (addH last sl), .int .i64 (addE last sl)]) ∧ HoldsA w' g s last (addS last sl x) ∧ Keeps (fun k => k = g ∨ k = s) w w' := by
  have c2 := ha.c2
  have n1 := ha.fine.n1
  go_enter Try.func28, Try.ntmps28
  go_wp2_with (go_at_call 50; refine (ar_ok g s last _ sl _ ha).mono ?_; rintro e w' ⟨rfl, rfl⟩)
  go_loopg [16] sl.length (fun m i wr => ∃ k q : Nat, i = .int .i64 k ∧ k + m = sl.length ∧ (∀ j, j < k → openS last (sAt sl j) = false) ∧ wr = w.drewN q)
  case atStart => exact ⟨0, 0, rfl, by omega, fun j hj => by omega, rfl⟩
  case round =>
    obtain ⟨k, q, rfl, hkm, hno, rfl⟩ := hrel
    have HKM := Lib.hid hkm
    have HNO := Lib.hid hno
    have hkl : k ≤ sl.length := by omega
    clear hkm hno
    by_cases hk : k < sl.length
    · have hk' : (k : Int) < sl.length := by omega
      cases ho : openS last (sAt sl k) with
      | false =>
        have HO := Lib.hid ho
        clear ho
        go_wp2_with fail
        refine (ar_open g s last _ sl k _ (ha.still ((Keeps.refl _ _).drewN q)) hk).mono ?_
        rintro e w' ⟨rfl, p, rfl⟩
        rw [HO.out]
        go_wp2_with fail
        have hkm := HKM.out
        go_roundg (gk - 1)
        case measure => omega
        case rel => exact ⟨k + 1, q + p, by go_num, by omega, fun j hj => by
          by_cases e : j = k
          · subst e; exact HO.out
          · exact HNO.out j (by omega), rfl⟩
      | true =>
        have hfo := firstO_at hk ho HNO.out
        have HO := Lib.hid ho
        have hop := firstO_open (last := last) (sl := sl) (by omega)
        rw [hfo] at hop
        have hF := ha.fine.addS x
        have hs : addS last sl x = sl.set k ⟨(sAt sl k).gen + 1, true, x⟩ := by rw [addS, if_pos (by omega), hfo]
        have hlen := len_add hk hop.1 ((sAt sl k).gen + 1) x
        have hml := things_len sl
        have hge := ha.fine.gen k hk
        have hl2 := ha.fine.l2
        rw [hs] at hF
        have hH : addH last sl = ((sAt sl k).gen + 1) * 4096 + k := by rw [addH, if_pos (by omega), hfo]
        have hE : addE last sl = 0 := by rw [addE, if_pos (by omega)]
        have HS := Lib.hid hs
        have HH := Lib.hid hH
        have HE := Lib.hid hE
        clear hH hE
        have HL := Lib.hid hlen
        have hop2 := hop.2
        have hu0 := hop.1
        clear ho hfo hs hlen hop
        generalize hgen : (sAt sl k).gen = ge at *
        go_wp2_with fail
        refine (ar_open g s last _ sl k _ (ha.still ((Keeps.refl _ _).drewN q)) hk).mono ?_
        rintro e w' ⟨rfl, p, rfl⟩
        rw [HO.out]
        have hd1 : HoldsA (w.drewN (q + p)) g s last sl := ha.still ((Keeps.refl (fun _ => False) w).drewN (q + p))
        obtain ⟨e0, e1, e2⟩ := ha.nd k hk
        rw [hgen] at e0
        have f0 := ha.fs (k * 3)
        have f1 := ha.fs (k * 3 + 1)
        have f2 := ha.fs (k * 3 + 2)
        have c1 := ha.c1
        have fg := blkfrozen ha.own 1
        have hgs := ha.ne
        have hsg := ha.ne.symm
        have hs1 := Slots.put3 (IsArena.slots hd1) hk (ge + 1) true x
        have k2 : Keeps (fun k => k = s) (w.drewN (q + p)) ((((w.drewN (q + p)).setCell ⟨s, k * 3, none⟩ (.int .i64 (ge + 1))).setCell ⟨s, k * 3 + 1, none⟩ (.bool true)).setCell ⟨s, k * 3 + 2, none⟩ (.int .i64 x)) := (((Keeps.refl (fun k => k = s) _).setCell (.inl rfl) _).setCell (.inl rfl) _).setCell (.inl rfl) _
        have h3 := hs1.arena hd1 k2 (by simp) hF
        have h4 := h3.setMany (((things sl).length : Nat) + 1)
        have HG := Lib.hid hgen
        clear hgen hs1
        have hz : ((sl.set k ⟨ge + 1, true, x⟩).length) = sl.length := by simp
        have e0' := (h4.nd k (by rw [hz]; exact hk)).1
        rw [sAt_set _ _ _ _ hk, if_pos rfl] at e0'
        clear hz
        go_wp2_with fail
        refine (hd_make (k : Int) (ge + 1) _ (by omega) (by omega) (by omega) (by omega)).mono ?_
        rintro e w' ⟨rfl, rfl⟩
        go_wp2_with fail
        go_ret2
        refine ⟨by rw [HH.out, HE.out]; rfl, ?_, ((((Keeps.refl (fun _ => False) w).drewN (q + p)).mono (fun _ _ x => x.elim)).trans' (k2.mono (fun _ _ x => .inr x))).setCell (.inl (.inl rfl)) _⟩
        show IsArena _ _ _ _ _ _
        rw [HS.out, HL.out]
        exact h4
    · have e : k = sl.length := by omega
      subst e
      have hn := firstO_none HNO.out
      have hs : addS last sl x = sl := by rw [addS, if_neg hn]
      have hH : addH last sl = 0 := by rw [addH, if_neg hn]
      have hE : addE last sl = 10 := by rw [addE, if_neg hn]
      have HH := Lib.hid hH
      have HE := Lib.hid hE
      have HS := Lib.hid hs
      clear hn hs hH hE
      go_wp2_with fail
      go_ret2
      exact ⟨by rw [HH.out, HE.out]; rfl, by rw [HS.out]; exact ha.still ((Keeps.refl (fun _ => False) w).drewN q), (Keeps.refl _ _).drewN q⟩

theorem ar_new_bad (r l : Int) (w : World) (h : r < 1 ∨ 4096 < r ∨ l < 1 ∨ 65535 < l) :
    Calls Try.prog 22 #[.int .i64 r, .int .i64 l] w fun e w' => e = .returned (.tuple #[.pointer none, .int .i64 1]) ∧ w = w' := by
  by_cases h1 : r < 1
  · go_enter Try.func22, Try.ntmps22
    go_wp2
    go_ret2
    exact ⟨rfl, rfl⟩
  · by_cases h2 : 4096 < r
    · go_enter Try.func22, Try.ntmps22
      go_wp2
      go_ret2
      exact ⟨rfl, rfl⟩
    · by_cases h3 : l < 1
      · go_enter Try.func22, Try.ntmps22
        go_wp2
        go_ret2
        exact ⟨rfl, rfl⟩
      · have h4 : 65535 < l := by omega
        go_enter Try.func22, Try.ntmps22
        go_wp2
        go_ret2
        exact ⟨rfl, rfl⟩

theorem Try.info98 : (Try.prog.info? 98).map (fun i => (i.zero, i.size, i.bytes)) = some (some (.agg #[.int .i64 0, .bool false, .int .i64 0]), 3, 24) := by kernel_rfl

theorem made3 (n : Nat) (a b c : Value) (i : Nat) (h : i < n) : (madeCells #[a, b, c] (n * 3))[i * 3]? = some a ∧ (madeCells #[a, b, c] (n * 3))[i * 3 + 1]? = some b ∧ (madeCells #[a, b, c] (n * 3))[i * 3 + 2]? = some c := by
  have g : ∀ j, j < 3 → (madeCells #[a, b, c] (n * 3))[i * 3 + j]? = #[a, b, c][j]? := by
    intro j hj
    simp only [madeCells]
    rw [Array.getElem?_map, Array.getElem?_range]
    have : i * 3 + j < n * 3 := by omega
    have h2 : (i * 3 + j) % 3 = j := by omega
    simp only [this, if_true, Option.map_some]
    have : j = 0 ∨ j = 1 ∨ j = 2 := by omega
    rcases this with rfl | rfl | rfl <;> simp [h2]
  exact ⟨g 0 (by omega), g 1 (by omega), g 2 (by omega)⟩

set_option maxHeartbeats 800000 in
theorem ar_new0 (n : Nat) (l : Int) (w : World) (h1 : 0 < n) (h2 : n ≤ 30) (h3 : 1 ≤ l) (h4 : l ≤ 65535) :
    Calls Try.prog 22 #[.int .i64 n, .int .i64 l] w fun e w' => e = .returned (.tuple #[.pointer (some ⟨w.heap.size + 1, 0, none⟩), .int .i64 0]) ∧ HoldsA w' (w.heap.size + 1) w.heap.size l (List.replicate n s0) ∧ Keeps (fun _ => False) w w' := by
  obtain ⟨iN, hiN, hzN, hsN, hbN⟩ := info_parts Try.info98
  have hmk : ∀ W : World, (Instr.makeSlice 91 (.int .i64 (n : Int)) (.int .i64 (n : Int))).run Try.prog W = .ok (.slice (some ⟨W.heap.size, 0, none⟩) n n) (W.alloc (.cells (madeCells #[.int .i64 0, .bool false, .int .i64 0] (n * 3)) 98)) := fun W => by
    have := run_make (P := Try.prog) W 91 98 iN _ Try.underlying91 hiN hzN .i64 .i64 n n (by omega) (Int.le_refl _) (by rw [hbN]; omega) (by omega)
    rw [Int.toNat_natCast, hsN] at this
    exact this
  clear hiN hzN hsN hbN
  have hn1 : ¬ ((n : Int) < 1) := by omega
  have hn2 : ¬ (4096 < (n : Int)) := by omega
  have hl1 : ¬ (l < 1) := by omega
  have hl2 : ¬ (65535 < l) := by omega
  go_enter Try.func22, Try.ntmps22
  go_wp2
  go_ret2
  have hb := heap_alloc_new (w.alloc (.cells (madeCells #[.int .i64 0, .bool false, .int .i64 0] (n * 3)) 98)) (.cells #[.int .i64 l, .int .i64 0, .slice (some ⟨w.heap.size, 0, none⟩) n n] 93)
  rw [World.size_alloc] at hb
  have hs := blkalloc (heap_alloc_new w (.cells (madeCells #[.int .i64 0, .bool false, .int .i64 0] (n * 3)) 98)) (.cells #[.int .i64 l, .int .i64 0, .slice (some ⟨w.heap.size, 0, none⟩) n n] 93)
  have ht : things (List.replicate n s0) = [] := things_start n 0
  refine ⟨rfl, ⟨?_, ⟨_, hs⟩, fun i hi => ?_, by omega, fineA_start h3 h4 h1 h2⟩, ((Keeps.refl _ _).alloc _).alloc _⟩
  · rw [ht, List.length_replicate]; exact hb
  · have hi' : i < n := by simpa using hi
    have e : sAt (List.replicate n s0) i = s0 := by simp only [sAt, List.getD, List.getElem?_replicate]; split <;> rfl
    obtain ⟨a, b, c⟩ := made3 n (.int .i64 0) (.bool false) (.int .i64 0) i hi'
    rw [e]
    exact ⟨(blkcell hs _).trans a, (blkcell hs _).trans b, (blkcell hs _).trans c⟩

theorem ar_new (n : Nat) (l : Int) (w : World) (h1 : 0 < n) (h2 : n ≤ 30) (h3 : 1 ≤ l) (h4 : l ≤ 65535) :
    Calls Try.prog 22 #[.int .i64 n, .int .i64 l] w fun e w' => ∃ g s, e = .returned (.tuple #[.pointer (some ⟨g, 0, none⟩), .int .i64 0]) ∧ w.heap.size ≤ g ∧ w.heap.size ≤ s ∧ HoldsA w' g s l (List.replicate n s0) ∧ Keeps (fun _ => False) w w' :=
  (ar_new0 n l w h1 h2 h3 h4).mono fun _ _ ⟨a, b, c⟩ => ⟨_, _, a, by omega, by omega, b, c⟩
end Go.Proofs.Ytlfccifibhcacaa
