/- The document's ring (becket/becketref07) and becketref02.Same, by their contracts. -/
import Derived.Test.YtlfccifibhcacaaRgl
namespace Go.Proofs.Ytlfccifibhcacaa
open Go.RowKit
set_option linter.unusedVariables false
set_option linter.unusedSimpArgs false

abbrev ints (l : List Int) : List Value := l.map (Value.int .i64)

theorem Rds.tail1 {ok : Nat → Prop} {w : World} {b o m c : Nat} {u : Value} {us : List Value} (h : Rds ok w (.slice (some ⟨b, o, none⟩) (m + 1) c) 1 (m + 1) (u :: us)) (c' : Nat) (A : Option Addr) (hc : m ≤ c') (hA : A = some ⟨b, o + 1, none⟩ := by rfl) :
    Rds ok w (.slice A m c') 1 m us := by
  subst hA
  obtain ⟨hl, A, c1, hv, hmc, hA⟩ := h
  injection hv with hv1 hv2 hv3
  subst hv1
  obtain ⟨b', o', hA, hok, hlt, hh⟩ := hA.resolve_left (by omega)
  injection hA with hA
  injection hA with hb ho
  subst hb ho
  exact ⟨by simpa using hl, _, c', rfl, hc, .inr ⟨b, o + 1, rfl, hok, hlt, fun j u hu => by rw [Nat.add_assoc, Nat.add_comm 1 j]; exact hh (j + 1) u hu⟩⟩

theorem _root_.Go.World.grownBy.blk' {w w1 : World} {g : Nat} {o : Obj} {row : Option Nat} (hg : w.grownBy w1 row) (h : w.heap[g]? = some o) (hne : some g ≠ row) : w1.heap[g]? = some o := (hg.block g (blklt h) hne).trans h

theorem take_succ_getD {xs : List Int} {k : Nat} (h : k < xs.length) : xs.take (k + 1) = xs.take k ++ [xs.getD k 0] := by
  rw [List.take_succ_eq_append_getElem h]
  simp [List.getD, h]

theorem rds_one (w : World) (x : Value) (t : TypeId) : Rds (fun _ => True) (w.alloc (.cells #[x] t)) (.slice (some ⟨w.heap.size, 0, none⟩) 1 1) 1 1 [x] := by
  refine ⟨rfl, _, 1, rfl, Nat.le_refl _, .inr ⟨_, 0, rfl, trivial, by simp, fun j u hj => ?_⟩⟩
  have := cell_one_new w x t j u hj
  rw [add_plain'] at this
  rwa [Nat.zero_add]

set_option maxHeartbeats 400000 in
theorem ref7_new_bad (n : Int) (w : World) (h : n < 0 ∨ 1024 < n) :
    Calls Try.prog 9 #[.int .i64 n] w fun e w' => e = .returned (.tuple #[.agg #[.int .i64 0, .slice none 0 0], .int .i64 1]) ∧ Keeps (fun _ => False) w w' := by
  by_cases h0 : n < 0
  all_goals
    go_enter Try.func9, Try.ntmps9
    go_wp2
    exact bodyPost_ret (v := .tuple #[.agg #[.int .i64 0, .slice none 0 0], .int .i64 1]) (by simp [results, Try.results9, go_sem]) rfl ⟨rfl, (Keeps.refl _ _).alloc _⟩

set_option maxHeartbeats 400000 in
theorem ref7_new (n : Int) (w : World) (h0 : 0 ≤ n) (h1 : n ≤ 1024) :
    Calls Try.prog 9 #[.int .i64 n] w fun e w' => e = .returned (.tuple #[.agg #[.int .i64 n, .slice none 0 0], .int .i64 0]) ∧ Keeps (fun _ => False) w w' := by
  go_enter Try.func9, Try.ntmps9
  go_wp2
  exact bodyPost_ret (v := .tuple #[.agg #[.int .i64 n, .slice none 0 0], .int .i64 0]) (by simp [results, Try.results9, go_sem]) rfl ⟨rfl, (Keeps.refl _ _).alloc _⟩

set_option maxHeartbeats 400000 in
theorem ref7_pop_empty (n : Int) (A : Option Addr) (c : Nat) (w : World) :
    Calls Try.prog 12 #[.agg #[.int .i64 n, .slice A 0 c]] w fun e w' => e = .returned (.tuple #[.agg #[.int .i64 n, .slice A 0 c], .int .i64 0, .int .i64 11]) ∧ Keeps (fun _ => False) w w' := by
  go_enter Try.func12, Try.ntmps12
  go_wp2
  exact bodyPost_ret (v := .tuple #[.agg #[.int .i64 n, .slice A 0 c], .int .i64 0, .int .i64 11]) (by simp [results, Try.results12, go_sem]) rfl ⟨rfl, ((Keeps.refl _ _).alloc _).alloc _⟩

set_option maxHeartbeats 400000 in
theorem ref7_pop (n : Int) (v : Value) (x : Int) (m : Nat) (xs : List Int) (ok : Nat → Prop) (w : World) (h : Rds ok w v 1 (m + 1) (ints (x :: xs))) :
    Calls Try.prog 12 #[.agg #[.int .i64 n, v]] w fun e w' => ∃ v', e = .returned (.tuple #[.agg #[.int .i64 n, v'], .int .i64 x, .int .i64 0]) ∧ Rds ok w' v' 1 m (ints xs) ∧ Keeps (fun _ => False) w w' := by
  have h' := h
  obtain ⟨hl, A, c, rfl, hmc, hA⟩ := h
  obtain ⟨b, o, rfl, hok, hlt, hc⟩ := hA.resolve_left (by omega)
  have hc0 := hc 0 (.int .i64 x) rfl
  simp only [Nat.add_zero] at hc0
  have HC := Lib.hid hc
  have HL := Lib.hid hl
  have HP := Lib.hid h'
  clear hc hl hA h'
  have hm0 : ¬ ((m : Int) + 1 = 0) := by omega
  have hm1 : ((m : Int) + 1 == 0) = false := by simp; omega
  by_cases hc1 : c = 1
  all_goals
    go_enter Try.func12, Try.ntmps12
    go_wp2
    refine bodyPost_ret (v := .tuple #[.agg #[.int .i64 n, _], .int .i64 x, .int .i64 0]) (by simp [results, Try.results12, go_sem]; rfl) rfl ⟨_, rfl, ?_, ?_⟩
    · first
        | exact (HP.out.tail1 _ _ (by omega)).keeps (((Keeps.refl (fun _ => False) _).alloc _).alloc _) (fun _ _ _ h => h)
        | (obtain rfl : m = 0 := by omega
           have hx : xs = [] := List.eq_nil_of_length_eq_zero (by simpa using HL.out)
           subst hx; exact Rds.nil_ _ _ _ _ _)
    · exact ((Keeps.refl _ _).alloc _).alloc _

set_option maxHeartbeats 400000 in
theorem ref7_push_full (n : Nat) (x : Int) (A : Option Addr) (c : Nat) (w : World) :
    Calls Try.prog 14 #[.agg #[.int .i64 n, .slice A n c], .int .i64 x] w fun e w' => e = .returned (.tuple #[.agg #[.int .i64 n, .slice A n c], .int .i64 10]) ∧ Keeps (fun _ => False) w w' := by
  go_enter Try.func14, Try.ntmps14
  go_wp2
  exact bodyPost_ret (v := .tuple #[.agg #[.int .i64 n, .slice A n c], .int .i64 10]) (by simp [results, Try.results14, go_sem]) rfl ⟨rfl, ((Keeps.refl _ _).alloc _).alloc _⟩

set_option maxHeartbeats 400000 in
theorem ref7_push (n m : Nat) (x : Int) (v : Value) (cs : List Value) (ok : Nat → Prop) (w : World) (h : Rds ok w v 1 m cs) (hcs : ∀ u ∈ cs, u.oneCell' = true) (hm : m < n) (hn : n ≤ 1024) :
    Calls Try.prog 14 #[.agg #[.int .i64 n, v], .int .i64 x] w fun e w' => ∃ v', e = .returned (.tuple #[.agg #[.int .i64 n, v'], .int .i64 0]) ∧ Rds (fun b => w.heap.size ≤ b) w' v' 1 (m + 1) (cs ++ [.int .i64 x]) ∧ Keeps (fun _ => False) w w' := by
  obtain ⟨A, c, rfl⟩ := h.slice_
  have hne : ((m : Int) == n) = false := by simp; omega
  have hne2 : (m == n) = false := by simp; omega
  have HP := Lib.hid h
  clear h
  go_enter Try.func14, Try.ntmps14
  go_wp2_with (at_builtin; refine wpList_append_rds _ rfl _ _ 28 rfl (w.heap.size + 2) 3 (.int .i64 0) 1 8 Try.underlying28 Try.info3 rfl (by decide) (.slice none 0 0) 0 [] rfl (World.ownsRow_nil _ _ _ _) _ _ _ _ rfl (HP.out.keeps (((Keeps.refl (fun _ => False) _).alloc _).alloc _) (fun _ _ _ h => h)) ?c1 ?c2 ?c3 ?c4 ?_)
  case c1 => exact hcs
  case c2 => unfold maxLen; omega
  case c3 => omega
  case c4 => simp
  intro A1 p1 w1 hown1 hgrow1 hat1
  have hk1 : Keeps (fun _ => False) w w1 := (((Keeps.refl _ w).alloc _).alloc _).grown hgrow1 (fun k hk => by simp [Value.ownBlock] at hk)
  have hz := hgrow1.size
  simp only [World.size_alloc] at hz
  have hb0 := hgrow1.blk' (g := w.heap.size) (blkalloc (heap_alloc_new w _) _) (by simp [Value.ownBlock])
  have hb1 := hgrow1.blk' (g := w.heap.size + 1) (by simpa using heap_alloc_new (w.alloc _) _) (by simp [Value.ownBlock])
  go_wp2_with (at_builtin; refine wpList_append_rds _ rfl _ _ 28 rfl (w.heap.size + 2) 3 (.int .i64 0) 1 8 Try.underlying28 Try.info3 rfl (by decide) (.slice A1 _ p1) _ _ rfl (hown1.alloc _) _ _ _ _ rfl (rds_one _ _ _) ?e1 ?e2 ?e3 ?e4 ?_)
  case e1 => intro u hu; simp at hu; subst hu; rfl
  case e2 => unfold maxLen; omega
  case e3 => omega
  case e4 => simp; omega
  intro A2 p2 w2 hown2 hgrow2 hat2
  have hk2 : Keeps (fun _ => False) w w2 := (hk1.alloc _).grown hgrow2 (fun k hk hlt => by have := (hown1.lt k hk).1; omega)
  have hd0 := hgrow2.blk' (blkalloc hb0 _) (fun e => by have := (hown1.lt _ e.symm).1; omega)
  have hd1 := hgrow2.blk' (blkalloc hb1 _) (fun e => by have := (hown1.lt _ e.symm).1; omega)
  have k00 : w2.cell? ⟨w.heap.size, 0, none⟩ = some _ := (blkcell hd0 0).trans rfl
  have k01 : w2.cell? ⟨w.heap.size, 1, none⟩ = some _ := (blkcell hd0 1).trans rfl
  have k10 : w2.cell? ⟨w.heap.size + 1, 0, none⟩ = some _ := (blkcell hd1 0).trans rfl
  have k11 : w2.cell? ⟨w.heap.size + 1, 1, none⟩ = some _ := (blkcell hd1 1).trans rfl
  have f01 := blkfrozen hd0 1
  have f10 := blkfrozen hd1 0
  have f11 := blkfrozen hd1 1
  clear hd0 hd1 hb0 hb1
  go_wp2
  refine bodyPost_ret (v := .tuple #[.agg #[.int .i64 n, .slice A2 (m + 1) p2], .int .i64 0]) (by simp [results, Try.results14, go_sem, k10, k11]) rfl ⟨_, rfl, ?_, ?_⟩
  · have h3 := Rds.own hown2
    have hk3 : Keeps (fun k => k = w.heap.size ∨ k = w.heap.size + 1) w2 (((w2.setCell ⟨w.heap.size, 1, none⟩ (.slice A2 (m + 1) p2)).setCell ⟨w.heap.size + 1, 0, none⟩ (.int .i64 n)).setCell ⟨w.heap.size + 1, 1, none⟩ (.slice A2 (m + 1) p2)) :=
      (((Keeps.refl _ _).setCell (.inl (.inl rfl)) _).setCell (.inl (.inr rfl)) _).setCell (.inl (.inr rfl)) _
    have h4 := (h3.keeps hk3 (fun k hk _ => by omega)).mono (ok' := fun b => w.heap.size ≤ b) (fun k hk _ => by omega)
    simpa using h4
  · exact ((hk2.setCell (.inr (Nat.le_refl _)) _).setCell (.inr (by simp)) _).setCell (.inr (by simp)) _

set_option maxHeartbeats 400000 in
theorem ref7_at_bad (n : Int) (m : Nat) (i : Int) (A : Option Addr) (c : Nat) (w : World) (hi : i < 0 ∨ (m : Int) ≤ i) :
    Calls Try.prog 16 #[.agg #[.int .i64 n, .slice A m c], .int .i64 i] w fun e w' => e = .returned (.tuple #[.int .i64 0, .int .i64 8]) ∧ Keeps (fun _ => False) w w' := by
  by_cases h0 : i < 0
  all_goals
    go_enter Try.func16, Try.ntmps16
    go_wp2
    go_ret2
    exact ⟨rfl, (Keeps.refl _ _).alloc _⟩

set_option maxHeartbeats 400000 in
theorem ref7_at (n : Int) (m i : Nat) (v : Value) (xs : List Int) (ok : Nat → Prop) (w : World) (h : Rds ok w v 1 m (ints xs)) (hi : i < m) :
    Calls Try.prog 16 #[.agg #[.int .i64 n, v], .int .i64 i] w fun e w' => e = .returned (.tuple #[.int .i64 (xs.getD i 0), .int .i64 0]) ∧ Keeps (fun _ => False) w w' := by
  have hlen : xs.length = m := by have := h.1; simpa using this
  obtain ⟨hl, A, c, rfl, hmc, hA⟩ := h
  obtain ⟨b, o, rfl, hok, hlt, hc⟩ := hA.resolve_left (by omega)
  have hci := hc i (.int .i64 (xs.getD i 0)) (by simp [show i < xs.length by omega, List.getD])
  clear hc hl hA hlen
  have h0 : ¬ ((i : Int) < 0) := by omega
  have h1 : ¬ ((m : Int) ≤ i) := by omega
  go_enter Try.func16, Try.ntmps16
  go_wp2
  go_ret2
  exact ⟨by simp, (Keeps.refl _ _).alloc _⟩

/-- The element of a slice of ints. -/
theorem Rds.at_int {ok : Nat → Prop} {w : World} {v : Value} {m : Nat} {xs : List Int} (h : Rds ok w v 1 m (ints xs)) : xs.length = m ∧ ∃ A c, v = .slice A m c ∧ m ≤ c ∧ (0 < m → ∃ b o, A = some ⟨b, o, none⟩ ∧ ∀ i, i < m → w.cell? ⟨b, o + i, none⟩ = some (.int .i64 (xs.getD i 0))) := by
  have hlen : xs.length = m := by have := h.1; simpa using this
  obtain ⟨hl, A, c, rfl, hmc, hA⟩ := h
  refine ⟨hlen, A, c, rfl, hmc, fun hm => ?_⟩
  obtain ⟨b, o, rfl, hok, hlt, hc⟩ := hA.resolve_left (by omega)
  exact ⟨b, o, rfl, fun i hi => hc i (.int .i64 (xs.getD i 0)) (by simp [show i < xs.length by omega, List.getD])⟩

set_option maxHeartbeats 400000 in
theorem ref2_same_len (m n : Nat) (A B : Option Addr) (c d : Nat) (w : World) (h : m ≠ n) :
    Calls Try.prog 17 #[.slice A m c, .slice B n d] w fun e w' => e = .returned (.bool false) ∧ w = w' := by
  have hne : (m == n) = false := by simpa using h
  go_enter Try.func17, Try.ntmps17
  go_wp2
  go_ret
  exact ⟨rfl, rfl⟩

set_option maxHeartbeats 400000 in
theorem ref2_same (m : Nat) (u v : Value) (xs ys : List Int) (ok ok' : Nat → Prop) (w : World) (h : Rds ok w u 1 m (ints xs)) (h' : Rds ok' w v 1 m (ints ys)) (hm : m ≤ 2000) :
    Calls Try.prog 17 #[u, v] w fun e w' => e = .returned (.bool (decide (xs = ys))) ∧ ∃ k, w' = w.drewN k := by
  obtain ⟨hlx, A, c, rfl, hmc, hcx⟩ := h.at_int
  obtain ⟨hly, B, d, rfl, hmd, hcy⟩ := h'.at_int
  clear h h'
  go_enter Try.func17, Try.ntmps17
  go_wp2
  go_loopw [5] (fun i wr => ∃ k q : Nat, k ≤ m ∧ i = .int .i64 k ∧ wr = w.drewN q ∧ xs.take k = ys.take k) (fun i _ => m - (intOf i).toNat)
  case atStart => exact ⟨0, 0, Nat.zero_le _, rfl, rfl, rfl⟩
  case round =>
    obtain ⟨k, q, hk, rfl, rfl, htk⟩ := hrel
    have HT := Lib.hid htk
    clear htk
    by_cases hlt : k < m
    · obtain ⟨b, o, rfl, hx⟩ := hcx (by omega)
      obtain ⟨b', o', rfl, hy⟩ := hcy (by omega)
      have hx' := hx k hlt
      have hy' := hy k hlt
      clear hx hy hcx hcy
      obtain ⟨p, hp⟩ : ∃ p, p = xs.getD k 0 := ⟨_, rfl⟩
      obtain ⟨p', hp'⟩ : ∃ p, p = ys.getD k 0 := ⟨_, rfl⟩
      rw [← hp] at hx'
      rw [← hp'] at hy'
      have HP := Lib.hid hp
      have HP' := Lib.hid hp'
      clear hp hp'
      by_cases he : p = p'
      · subst he
        go_wp2
        refine wp_qall (w0 := w) ⟨q, rfl⟩ (by kernel_rfl) (by kernel_rfl) ?_
        repeat go_big_quiet_step (fail)
        refine wpQuiet_nil (fun nr => ?_)
        go_wp2
        go_roundw
        case rel => exact ⟨k + 1, nr, by omega, by go_num, rfl, by rw [take_succ_getD (by omega), take_succ_getD (by omega), HT.out, ← HP.out, ← HP'.out]⟩
        case measure => simp [intOf]; omega
      · have he1 : (p == p') = false := by simpa using he
        go_wp2
        refine wp_qall (w0 := w) ⟨q, rfl⟩ (by kernel_rfl) (by kernel_rfl) ?_
        repeat go_big_quiet_step (fail)
        refine wpQuiet_nil (fun nr => ?_)
        go_wp2
        go_ret
        refine ⟨?_, _, rfl⟩
        have : xs ≠ ys := fun e => he (by rw [HP.out, HP'.out, e])
        simp [this]
    · have hkm : k = m := by omega
      subst hkm
      go_wp2
      go_ret
      refine ⟨?_, _, rfl⟩
      have ht := HT.out
      rw [List.take_of_length_le (by omega), List.take_of_length_le (by omega)] at ht
      simp [ht]
end Go.Proofs.Ytlfccifibhcacaa
