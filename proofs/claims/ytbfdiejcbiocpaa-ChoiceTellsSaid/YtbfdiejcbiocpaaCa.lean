/- Choices in memory: All of the program and of the document, To, Back, Same, by their contracts. -/
import Derived.Test.YtbfdiejcbiocpaaCc
namespace Go.Proofs.Ytbfdiejcbiocpaa
open Go.RowKit
set_option linter.unusedVariables false
set_option linter.unusedSimpArgs false

/-- The cells of the j-th choice, in a later world. -/
theorem chCells {ok : Nat → Prop} {w w' : World} {A : Option Addr} {m c j : Nat} {cs : List Ch} (h : Rds ok w (.slice A m c) 3 m (flatC cs)) (hk : Keeps (fun _ => False) w w') (hj : j < m) :
    ∃ b o, A = some ⟨b, o, none⟩ ∧ w'.cell? ⟨b, o + j * 3, none⟩ = some (.int .i64 (cs.getD j c0).k) ∧ w'.cell? ⟨b, o + j * 3 + 1, none⟩ = some (.int .i64 (cs.getD j c0).v) ∧ w'.cell? ⟨b, o + j * 3 + 2, none⟩ = some (.int .i64 (cs.getD j c0).w) := by
  obtain ⟨_, A', c', hv, _, hA⟩ := h.at_C
  injection hv with h1 h2 h3
  subst h1
  obtain ⟨b, o, e, hlt, hc⟩ := hA (by omega)
  obtain ⟨x1, x2, x3⟩ := hc j hj
  exact ⟨b, o, e, (hk.cell (p := ⟨b, _, none⟩) hlt (fun x => x)).trans x1, (hk.cell (p := ⟨b, _, none⟩) hlt (fun x => x)).trans x2, (hk.cell (p := ⟨b, _, none⟩) hlt (fun x => x)).trans x3⟩
theorem ch_eta (c : Ch) : (⟨c.k, c.v, c.w⟩ : Ch) = c := rfl

theorem rds_blkC (w : World) (c : Ch) (ty : TypeId) : Rds (fun _ => True) (w.alloc (.cells #[.int .i64 c.k, .int .i64 c.v, .int .i64 c.w] ty)) (.slice (some ⟨w.heap.size, 0, none⟩) 1 1) 3 1 (flatC [c]) := by
  refine ⟨rfl, _, 1, rfl, Nat.le_refl _, .inr ⟨_, 0, rfl, trivial, by simp, fun j u hj => ?_⟩⟩
  rw [Nat.zero_add, blkcell (heap_alloc_new w _) j]
  simpa [flatC] using hj
theorem rds_blkC2 (w : World) (o : Obj) (c : Ch) (ty : TypeId) : Rds (fun _ => True) ((w.alloc o).alloc (.cells #[.int .i64 c.k, .int .i64 c.v, .int .i64 c.w] ty)) (.slice (some ⟨w.heap.size + 1, 0, none⟩) 1 1) 3 1 (flatC [c]) := by
  have := rds_blkC (w.alloc o) c ty
  rwa [World.size_alloc] at this
theorem take_succ_C {cs : List Ch} {j : Nat} (hj : j < cs.length) : cs.take (j + 1) = cs.take j ++ [cs.getD j c0] := by
  rw [List.take_succ_eq_append_getElem hj]; simp [List.getD, List.getElem?_eq_getElem hj]
theorem Try.infoC (t : TypeId) (ht : t = 24 ∨ t = 36) : (Try.prog.info? t).map (fun i => (i.zero, i.size, i.bytes)) = some (some (.agg #[.int .i64 0, .int .i64 0, .int .i64 0]), 3, 24) := by
  rcases ht with rfl | rfl <;> kernel_rfl

set_option maxHeartbeats 1000000 in
theorem p_all (v : Value) (cs : List Ch) (ok : Nat → Prop) (w : World) (h : Rds ok w v 3 cs.length (flatC cs)) :
    Calls Try.prog 7 #[v] w fun e w' => e = .returned (.tuple #[.int .i64 (allI cs), .int .i64 (allE cs)]) ∧ Keeps (fun _ => False) w w' := by
  obtain ⟨A, c, rfl⟩ := h.slice_
  by_cases hl : 2000 < cs.length
  · have hl' : (2000 : Int) < cs.length := by omega
    rw [allI, allE, if_pos hl, if_pos hl]
    go_enter Try.func7, Try.ntmps7
    go_wp2
    go_ret2
    exact ⟨rfl, Keeps.refl _ _⟩
  · have hl' : ¬ (2000 : Int) < cs.length := by omega
    have HH := Lib.hid h
    clear h
    go_enter Try.func7, Try.ntmps7
    go_wp2_with fail
    go_loopg [12] cs.length (fun m i wr => ∃ j : Nat, i = .int .i64 j ∧ j + m = cs.length ∧ (∀ i, i < j → chk (cs.getD i c0) = 0) ∧ Keeps (fun _ => False) w wr)
    case atStart => exact ⟨0, rfl, by omega, fun i hi => by omega, Keeps.refl _ _⟩
    case round =>
      obtain ⟨j, rfl, hjm, hno, kw⟩ := hrel
      have HJM := Lib.hid hjm
      have HNO := Lib.hid hno
      have hjl : j ≤ cs.length := by omega
      clear hjm hno
      by_cases hj : j < cs.length
      · have hj' : (j : Int) < cs.length := by omega
        obtain ⟨b, o, rfl, x1, x2, x3⟩ := chCells HH.out kw hj
        by_cases hb : chk (cs.getD j c0) = 0
        · have HNO' := Lib.hid (show ∀ i, i < j + 1 → chk (cs.getD i c0) = 0 from fun i hi => by
            by_cases e : i = j
            · subst e; exact hb
            · exact HNO.out i (by omega))
          have HB := Lib.hid hb
          clear hb
          generalize cs.getD j c0 = t at *
          go_wp2_with fail
          refine (p_check t _).mono ?_
          rintro e w1 ⟨rfl, k1⟩
          rw [HB.out]
          go_wp2_with fail
          have hjm := HJM.out
          go_roundg (gk - 1)
          case measure => omega
          case rel => exact ⟨j + 1, by go_num, by omega, HNO'.out, (kw.alloc _).trans' k1⟩
        · have hbi := bad_at hj hb HNO.out
          have hI : allI cs = j := by rw [allI, if_neg hl, if_pos (by omega), hbi]
          have hE : allE cs = chk (cs.getD j c0) := by rw [allE, if_neg hl, if_pos (by omega), hbi]
          have HI := Lib.hid hI
          have HE := Lib.hid hE
          have hne : (chk (cs.getD j c0) != 0) = true := by simpa using hb
          clear hbi hI hE hb
          generalize cs.getD j c0 = t at *
          go_wp2_with fail
          refine (p_check t _).mono ?_
          rintro e w1 ⟨rfl, k1⟩
          generalize chk t = z at *
          go_wp2_with fail
          go_ret2
          exact ⟨by rw [HI.out, HE.out]; rfl, (kw.alloc _).trans' k1⟩
      · have e : j = cs.length := by omega
        subst e
        have hn := bad_none HNO.out
        have hI : allI cs = 0 := by rw [allI, if_neg hl, if_neg hn]
        have hE : allE cs = 0 := by rw [allE, if_neg hl, if_neg hn]
        have HI := Lib.hid hI
        have HE := Lib.hid hE
        clear hn hI hE
        go_wp2_with fail
        go_ret2
        exact ⟨by rw [HI.out, HE.out]; rfl, kw⟩

set_option maxHeartbeats 1000000 in
theorem r_all (v : Value) (cs : List Ch) (ok : Nat → Prop) (w : World) (h : Rds ok w v 3 cs.length (flatC cs)) :
    Calls Try.prog 9 #[v] w fun e w' => e = .returned (.tuple #[.int .i64 (allI cs), .int .i64 (allE cs)]) ∧ Keeps (fun _ => False) w w' := by
  obtain ⟨A, c, rfl⟩ := h.slice_
  by_cases hl : 2000 < cs.length
  · have hl' : (2000 : Int) < cs.length := by omega
    rw [allI, allE, if_pos hl, if_pos hl]
    go_enter Try.func9, Try.ntmps9
    go_wp2
    go_ret2
    exact ⟨rfl, Keeps.refl _ _⟩
  · have hl' : ¬ (2000 : Int) < cs.length := by omega
    have HH := Lib.hid h
    clear h
    go_enter Try.func9, Try.ntmps9
    go_wp2_with fail
    go_loopg [4] cs.length (fun m i wr => ∃ j : Nat, i = .int .i64 j ∧ j + m = cs.length ∧ (∀ i, i < j → chk (cs.getD i c0) = 0) ∧ Keeps (fun _ => False) w wr)
    case atStart => exact ⟨0, rfl, by omega, fun i hi => by omega, Keeps.refl _ _⟩
    case round =>
      obtain ⟨j, rfl, hjm, hno, kw⟩ := hrel
      have HJM := Lib.hid hjm
      have HNO := Lib.hid hno
      have hjl : j ≤ cs.length := by omega
      clear hjm hno
      by_cases hj : j < cs.length
      · have hj' : (j : Int) < cs.length := by omega
        obtain ⟨b, o, rfl, x1, x2, x3⟩ := chCells HH.out kw hj
        by_cases hb : chk (cs.getD j c0) = 0
        · have HNO' := Lib.hid (show ∀ i, i < j + 1 → chk (cs.getD i c0) = 0 from fun i hi => by
            by_cases e : i = j
            · subst e; exact hb
            · exact HNO.out i (by omega))
          have HB := Lib.hid hb
          clear hb
          generalize cs.getD j c0 = t at *
          go_wp2_with fail
          refine (r_check t _).mono ?_
          rintro e w1 ⟨rfl, k1⟩
          rw [HB.out]
          go_wp2_with fail
          have hjm := HJM.out
          go_roundg (gk - 1)
          case measure => omega
          case rel => exact ⟨j + 1, by go_num, by omega, HNO'.out, kw.trans' k1⟩
        · have hbi := bad_at hj hb HNO.out
          have hI : allI cs = j := by rw [allI, if_neg hl, if_pos (by omega), hbi]
          have hE : allE cs = chk (cs.getD j c0) := by rw [allE, if_neg hl, if_pos (by omega), hbi]
          have HI := Lib.hid hI
          have HE := Lib.hid hE
          have hne : (chk (cs.getD j c0) != 0) = true := by simpa using hb
          clear hbi hI hE hb
          generalize cs.getD j c0 = t at *
          go_wp2_with fail
          refine (r_check t _).mono ?_
          rintro e w1 ⟨rfl, k1⟩
          generalize chk t = z at *
          go_wp2_with fail
          go_ret2
          exact ⟨by rw [HI.out, HE.out]; rfl, kw.trans' k1⟩
      · have e : j = cs.length := by omega
        subst e
        have hn := bad_none HNO.out
        have hI : allI cs = 0 := by rw [allI, if_neg hl, if_neg hn]
        have hE : allE cs = 0 := by rw [allE, if_neg hl, if_neg hn]
        have HI := Lib.hid hI
        have HE := Lib.hid hE
        clear hn hI hE
        go_wp2_with fail
        go_ret2
        exact ⟨by rw [HI.out, HE.out]; rfl, kw⟩

set_option maxHeartbeats 1000000 in
theorem to_p (v : Value) (cs : List Ch) (ok : Nat → Prop) (w : World) (h : Rds ok w v 3 cs.length (flatC cs)) (hbig : cs.length ≤ 1000000) :
    Calls Try.prog 8 #[v] w fun e w' => ∃ u, e = .returned u ∧ Rds (fun b => w.heap.size ≤ b) w' u 3 cs.length (flatC cs) ∧ Keeps (fun _ => False) w w' := by
  obtain ⟨A, c, rfl⟩ := h.slice_
  have HH := Lib.hid h
  clear h
  go_enter Try.func8, Try.ntmps8
  go_wp2_with fail
  go_loopg [3, 8] cs.length (fun m u i wr => ∃ j : Nat, i = .int .i64 j ∧ j + m = cs.length ∧ Keeps (fun _ => False) w wr ∧ wr.ownsRow w.heap.size 36 3 u j (flatC (cs.take j)))
  case atStart => exact ⟨0, rfl, by omega, Keeps.refl _ _, World.ownsRow_nil _ _ _ _⟩
  case round =>
    obtain ⟨j, rfl, hjm, kw, hown⟩ := hrel
    have HJM := Lib.hid hjm
    have hjl : j ≤ cs.length := by omega
    clear hjm
    obtain ⟨Au, cu, rfl⟩ := own_slice' hown
    have hwz := kw.size
    by_cases hj : j < cs.length
    · have hj' : (j : Int) < cs.length := by omega
      obtain ⟨b, o, rfl, x1, x2, x3⟩ := chCells HH.out kw hj
      have hsucc := take_succ_C hj
      have HS := Lib.hid hsucc
      clear hsucc
      generalize cs.getD j c0 = t at *
      go_wp2_with (at_builtin; go_loud (refine wpList_append_rds _ rfl _ _ 29 rfl w.heap.size 36 (.agg #[.int .i64 0, .int .i64 0, .int .i64 0]) 3 24 Try.underlying29 (Try.infoC 36 (.inr rfl)) rfl (by decide) _ j (flatC (cs.take j)) rfl ((hown.alloc _).alloc _) _ _ 1 (flatC [t]) rfl (rds_blkC2 _ _ _ _) ?c1 ?c2 ?c3 ?c4 ?_))
      case c1 => exact flatC_one _
      case c2 => unfold maxLen; omega
      case c3 => omega
      case c4 => simp; omega
      intro A1 p1 w1 hown1 hgrow1 hat1
      have hk1 : Keeps (fun _ => False) w w1 := ((kw.alloc _).alloc _).grown hgrow1 (fun k hk hlt => by have := (hown.lt k hk).1; omega)
      go_wp2_with fail
      have hjm := HJM.out
      go_roundg (gk - 1)
      case measure => omega
      case rel => exact ⟨j + 1, by go_num, by omega, hk1, by rw [HS.out, flatC_app]; exact hown1⟩
    · have e : j = cs.length := by omega
      subst e
      rw [List.take_length] at hown
      go_wp2_with fail
      go_ret
      exact ⟨_, rfl, Rds.own hown, kw⟩

set_option maxHeartbeats 1000000 in
theorem back_r (v : Value) (cs : List Ch) (ok : Nat → Prop) (w : World) (h : Rds ok w v 3 cs.length (flatC cs)) (hbig : cs.length ≤ 1000000) :
    Calls Try.prog 17 #[v] w fun e w' => ∃ u, e = .returned u ∧ Rds (fun b => w.heap.size ≤ b) w' u 3 cs.length (flatC cs) ∧ Keeps (fun _ => False) w w' := by
  obtain ⟨A, c, rfl⟩ := h.slice_
  have HH := Lib.hid h
  clear h
  go_enter Try.func17, Try.ntmps17
  go_wp2_with fail
  go_loopg [3, 8] cs.length (fun m u i wr => ∃ j : Nat, i = .int .i64 j ∧ j + m = cs.length ∧ Keeps (fun _ => False) w wr ∧ wr.ownsRow w.heap.size 24 3 u j (flatC (cs.take j)))
  case atStart => exact ⟨0, rfl, by omega, Keeps.refl _ _, World.ownsRow_nil _ _ _ _⟩
  case round =>
    obtain ⟨j, rfl, hjm, kw, hown⟩ := hrel
    have HJM := Lib.hid hjm
    have hjl : j ≤ cs.length := by omega
    clear hjm
    obtain ⟨Au, cu, rfl⟩ := own_slice' hown
    have hwz := kw.size
    by_cases hj : j < cs.length
    · have hj' : (j : Int) < cs.length := by omega
      obtain ⟨b, o, rfl, x1, x2, x3⟩ := chCells HH.out kw hj
      have hsucc := take_succ_C hj
      have HS := Lib.hid hsucc
      clear hsucc
      generalize cs.getD j c0 = t at *
      go_wp2_with (at_builtin; go_loud (refine wpList_append_rds _ rfl _ _ 22 rfl w.heap.size 24 (.agg #[.int .i64 0, .int .i64 0, .int .i64 0]) 3 24 Try.underlying22 (Try.infoC 24 (.inl rfl)) rfl (by decide) _ j (flatC (cs.take j)) rfl ((hown.alloc _).alloc _) _ _ 1 (flatC [t]) rfl (rds_blkC2 _ _ _ _) ?c1 ?c2 ?c3 ?c4 ?_))
      case c1 => exact flatC_one _
      case c2 => unfold maxLen; omega
      case c3 => omega
      case c4 => simp; omega
      intro A1 p1 w1 hown1 hgrow1 hat1
      have hk1 : Keeps (fun _ => False) w w1 := ((kw.alloc _).alloc _).grown hgrow1 (fun k hk hlt => by have := (hown.lt k hk).1; omega)
      go_wp2_with fail
      have hjm := HJM.out
      go_roundg (gk - 1)
      case measure => omega
      case rel => exact ⟨j + 1, by go_num, by omega, hk1, by rw [HS.out, flatC_app]; exact hown1⟩
    · have e : j = cs.length := by omega
      subst e
      rw [List.take_length] at hown
      go_wp2_with fail
      go_ret
      exact ⟨_, rfl, Rds.own hown, kw⟩

set_option maxHeartbeats 1000000 in
theorem r_same (u v : Value) (cs : List Ch) (ok ok' : Nat → Prop) (w : World) (h : Rds ok w u 3 cs.length (flatC cs)) (h' : Rds ok' w v 3 cs.length (flatC cs)) (hbig : cs.length ≤ 1000000) :
    Calls Try.prog 16 #[u, v] w fun e w' => e = .returned (.bool true) ∧ ∃ k, w' = w.drewN k := by
  obtain ⟨A, c, rfl⟩ := h.slice_
  obtain ⟨B, d, rfl⟩ := h'.slice_
  have HH := Lib.hid h
  have HH' := Lib.hid h'
  clear h h'
  go_enter Try.func16, Try.ntmps16
  go_wp2_with fail
  go_loopg [5] cs.length (fun m i wr => ∃ j q : Nat, i = .int .i64 j ∧ j + m = cs.length ∧ wr = w.drewN q)
  case atStart => exact ⟨0, 0, rfl, by omega, rfl⟩
  case round =>
    obtain ⟨j, q, rfl, hjm, rfl⟩ := hrel
    have HJM := Lib.hid hjm
    have hjl : j ≤ cs.length := by omega
    clear hjm
    by_cases hj : j < cs.length
    · have hj' : (j : Int) < cs.length := by omega
      obtain ⟨b, o, rfl, x1, x2, x3⟩ := chCells HH.out (Keeps.refl _ _) hj
      obtain ⟨b', o', rfl, y1, y2, y3⟩ := chCells HH'.out (Keeps.refl _ _) hj
      generalize cs.getD j c0 = t at *
      go_wp2_with fail
      refine wp_qall (w0 := w) ⟨q, rfl⟩ (by kernel_rfl) (by kernel_rfl) ?_
      repeat go_big_quiet_step (fail)
      refine wpQuiet_nil (fun nr => ?_)
      go_wp2
      have hjm := HJM.out
      go_roundg (gk - 1)
      case measure => omega
      case rel => exact ⟨j + 1, nr, by go_num, by omega, rfl⟩
    · have e : j = cs.length := by omega
      subst e
      go_wp2_with fail
      go_ret
      exact ⟨rfl, _, rfl⟩
end Go.Proofs.Ytbfdiejcbiocpaa
