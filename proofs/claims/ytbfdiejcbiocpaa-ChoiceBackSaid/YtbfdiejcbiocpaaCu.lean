/- Reading choices: Read of the document, whole. -/
import Derived.Test.YtbfdiejcbiocpaaCt
import Derived.Deep.RegionHeld3
import Derived.Deep.DeepCutAuto
namespace Go.Proofs.Ytbfdiejcbiocpaa
open Go.RowKit Go.Shelf
set_option linter.unusedVariables false
set_option linter.unusedSimpArgs false

theorem chsAt_ok {L : List UInt8} {q n : Nat} (h : ∀ i, i < n → chk (chAt L (q + i * 3)) = 0) : ¬ badIx (chsAt L q n) < n := by
  have := bad_none (cs := chsAt L q n) (fun i hi => by rw [chsAt_len] at hi; rw [chsAt_at _ _ _ _ hi]; exact h i hi)
  rwa [chsAt_len] at this
theorem body_short {L : List UInt8} {q M j : Nat} (hj : j < M) (ha : avail L q M = j) (h : ∀ i, i < j → chk (chAt L (q + i * 3)) = 0) : bodyE L q M = 4 := by
  unfold bodyE
  rw [ha, if_neg (chsAt_ok h), if_pos hj]
theorem body_ok {L : List UInt8} {q M : Nat} (ha : avail L q M = M) (h : ∀ i, i < M → chk (chAt L (q + i * 3)) = 0) : bodyE L q M = 0 := by
  unfold bodyE
  rw [ha, if_neg (chsAt_ok h), if_neg (by omega)]
theorem body_bad2 {L : List UInt8} {q M j : Nat} (hj : j < avail L q M) (h : ∀ i, i < j → chk (chAt L (q + i * 3)) = 0) {e : Int} (he : e ≠ 0) (hx : chk (chAt L (q + j * 3)) = e) : bodyE L q M = e := by
  have hb := bad_at (cs := chsAt L q (avail L q M)) (j := j) (by rw [chsAt_len]; exact hj) (by rw [chsAt_at _ _ _ _ hj, hx]; exact he) (fun i hi => by rw [chsAt_at _ _ _ _ (by omega)]; exact h i hi)
  unfold bodyE
  rw [hb, if_pos hj, hx]
theorem avail_short {s : ByteArray} {q M j : Nat} (hj : j < M) (hle : j * 3 ≤ s.size - q) (h : s.size < q + j * 3 + 3) : avail s.data.toList q M = j := by
  unfold avail; rw [bytes_len]; omega

theorem heap_drew {W : World} {b : Nat} {o : Obj} (h : W.heap[b]? = some o) : W.drew.heap[b]? = some o := h
theorem size_drew (W : World) : W.drew.heap.size = W.heap.size := rfl

set_option maxHeartbeats 4000000 in
set_option maxRecDepth 100000 in
theorem r_read_main (s : ByteArray) (p : Nat) (w : World) (hs : s.size ≤ 8000) (hp : p + 2 ≤ s.size) (x0 x1 : Nat) (hx0 : s[p].toNat = x0) (hx1 : s[p + 1].toNat = x1) (M : Nat) (hMM : 256 * x0 + x1 = M) (hM2 : M ≤ 2000) :
    Calls Try.prog 15 #[.string s, .int .i64 p] w fun e w' => RdPost w s.data.toList (p + 2) M e w' := by
  have h1 : ¬ ((s.size : Int) < p) := by omega
  have h2 : ¬ ((s.size : Int) - p < 2) := by omega
  have h0' : decide ((p : Int) < 0) = false := by simp
  have h3 : p < s.size := by omega
  have h4 : p + 1 < s.size := by omega
  have b1 : (x0 : Int) < 256 := by have := s[p].toNat_lt; omega
  have b2 : (x1 : Int) < 256 := by have := s[p + 1].toNat_lt; omega
  have b3 : ((s.size : Int)) ≤ 8000 := by omega
  have z1 : (0 : Int) ≤ (p : Int) + 1 := by omega
  have z2 : (p : Int) + 1 < (s.size : Int) := by omega
  have z3 : ((p : Int) + 1).toNat = p + 1 := by omega
  have hM : 256 * (x0 : Int) + x1 = M := by omega
  go_enter Try.func15, Try.ntmps15
  go_wp2_with fail
  refine wp_qall (w0 := w) ⟨0, rfl⟩ (by kernel_rfl) (by kernel_rfl) ?_
  repeat go_big_quiet_step (fail)
  refine wpQuiet_nil (fun nq => ?_)
  have k4 := (Keeps.refl (fun _ => False) w).drewN nq
  generalize w.drewN nq = w4 at *
  clear hM hMM
  go_wp2_with fail
  go_loopg [1, 8, 9] M (fun m u v i wr => ∃ j : Nat, i = .int .i64 j ∧ j + m = M ∧ u = .int .i64 ((p : Int) + 2 + j * 3) ∧ j * 3 ≤ s.size - (p + 2) ∧ (∀ i, i < j → chk (chAt s.data.toList (p + 2 + i * 3)) = 0) ∧ Keeps (fun _ => False) w wr ∧ wr.ownsRow w.heap.size 24 3 v j (flatC (chsAt s.data.toList (p + 2) j)))
  case atStart => exact ⟨0, rfl, by omega, by simp, by omega, fun i hi => by omega, k4, World.ownsRow_nil _ _ _ _⟩
  case round =>
    obtain ⟨j, rfl, hjm, rfl, hj3, hno, kw, hown⟩ := hrel
    have HJM := Lib.hid hjm
    have HNO := Lib.hid hno
    have hjl : j ≤ M := by omega
    clear hjm hno
    obtain ⟨Au, cu, rfl⟩ := own_slice' hown
    have hwz := kw.size
    by_cases hj : j < M
    · have hj' : (j : Int) < M := by omega
      by_cases hsh : (s.size : Int) - ((p : Int) + 2 + j * 3) < 3
      · have HE := Lib.hid (body_short hj (avail_short hj hj3 (by omega)) HNO.out)
        go_wp2_with fail
        go_ret3
        exact RdPost.bad (by decide) HE.out kw
      · have hav : j < avail s.data.toList (p + 2) M := by unfold avail; rw [bytes_len]; omega
        obtain ⟨o, ho⟩ : ∃ o : Nat, o = p + 2 + j * 3 := ⟨_, rfl⟩
        have hoI : (p : Int) + 2 + j * 3 = o := by omega
        have hsh' : ¬ (s.size : Int) - o < 3 := by omega
        have i1 : (o : Int) < (s.size : Int) := by omega
        have i2 : (o : Int) + 1 < (s.size : Int) := by omega
        have i3 : (o : Int) + 2 < (s.size : Int) := by omega
        have j2 : (0 : Int) ≤ (o : Int) + 1 := by omega
        have j3 : (0 : Int) ≤ (o : Int) + 2 := by omega
        have t2 : ((o : Int) + 1).toNat = o + 1 := by omega
        have t3 : ((o : Int) + 2).toNat = o + 2 := by omega
        have l1 : o < s.size := by omega
        have l2 : o + 1 < s.size := by omega
        have l3 : o + 2 < s.size := by omega
        have e1 := bt_eq s o l1
        have e2 := bt_eq s (o + 1) l2
        have e3 := bt_eq s (o + 2) l3
        have hch : chAt s.data.toList (p + 2 + j * 3) = mk3 (bt s o) (bt s (o + 1)) (bt s (o + 2)) := by rw [ho]; rfl
        have c1 : ((bt s o).toNat : Int) < 256 := by have := (bt s o).toNat_lt; omega
        have c2 : ((bt s (o + 1)).toNat : Int) < 256 := by have := (bt s (o + 1)).toNat_lt; omega
        have c3 : ((bt s (o + 2)).toNat : Int) < 256 := by have := (bt s (o + 2)).toNat_lt; omega
        generalize bt s o = y0 at *
        generalize bt s (o + 1) = y1 at *
        generalize bt s (o + 2) = y2 at *
        have HCH := Lib.hid hch
        have HOI := Lib.hid hoI
        rw [hoI]
        have bo : o ≤ 8000 := by omega
        have w2 : IntKind.i64.wrap ((o : Int) + 1) = (o : Int) + 1 := by rw [IntKind.wrap_i64]; omega
        have w3 : IntKind.i64.wrap ((o : Int) + 2) = (o : Int) + 2 := by rw [IntKind.wrap_i64]; omega
        have v0 : IntKind.i64.wrap (y0.toNat : Int) = y0.toNat := by rw [IntKind.wrap_i64]; omega
        have v1 : IntKind.i64.wrap (y1.toNat : Int) = y1.toNat := by rw [IntKind.wrap_i64]; omega
        have v2 : IntKind.i64.wrap (y2.toNat : Int) = y2.toNat := by rw [IntKind.wrap_i64]; omega
        clear hch hoI hsh ho
        go_upto_region 15 with fail
        go_cut [10] from 40 to 85 (fun u wx => u = .pointer (some ⟨wr.heap.size, 0, none⟩) ∧ wx.heap[wr.heap.size]? = some (.cells #[.int .i64 y0.toNat, .int .i64 y1.toNat, .int .i64 y2.toNat] 24 (0, 0)) ∧ Keeps (fun _ => False) wr wx ∧ wx.heap.size = wr.heap.size + 1)
        case first =>
          go_region_held3 (fun _ => True) (trivial) (fail)
          all_goals (go_wp2_with fail; go_meet)
          all_goals ((try simp only [v0, v1, v2]); exact ⟨by first | trivial | rfl, by repeat (first | exact heap_alloc_new _ _ | refine heap_drew ?_), by repeat (first | exact Keeps.refl _ _ | apply Keeps.alloc | apply Keeps.drew), by simp only [World.size_alloc, size_drew]⟩)
        case rest =>
          obtain ⟨rfl, hblk, kc, hsz⟩ := hcut
          have kwc := kw.trans' kc
          have hownc := Keeps.row kc hown
          have q0 : wc.cell? ⟨wr.heap.size, 0, none⟩ = some (.int .i64 y0.toNat) := (blkcell hblk 0).trans rfl
          have q1 : wc.cell? ⟨wr.heap.size, 1, none⟩ = some (.int .i64 y1.toNat) := (blkcell hblk 1).trans rfl
          have q2 : wc.cell? ⟨wr.heap.size, 2, none⟩ = some (.int .i64 y2.toNat) := (blkcell hblk 2).trans rfl
          have f0 := blkfrozen hblk 0
          have f1 := blkfrozen hblk 1
          have f2 := blkfrozen hblk 2
          have hownR := hown
          clear hown
          by_cases hk : y0.toNat = 1
          · have hk1 : ((y0.toNat : Int) == 1) = true := by simp; omega
            have hm : mk3 y0 y1 y2 = ⟨1, 256 * (y1.toNat : Int) + y2.toNat, 0⟩ := by rw [mk3, if_pos hk]
            have HC2 := Lib.hid (HCH.out.trans hm)
            have hkI : (y0.toNat : Int) = 1 := by omega
            clear hm hk
            go_wp2_with fail
            have hblkW := blkset (blkset (blkset hblk 0 (.int .i64 1)) 1 (.int .i64 (256 * (y1.toNat : Int) + y2.toNat))) 2 (.int .i64 0)
            have kW := ((kwc.setCell (p := ⟨wr.heap.size, 0, none⟩) (.inr kw.size) (.int .i64 1)).setCell (p := ⟨wr.heap.size, 1, none⟩) (.inr kw.size) (.int .i64 (256 * (y1.toNat : Int) + y2.toNat))).setCell (p := ⟨wr.heap.size, 2, none⟩) (.inr kw.size) (.int .i64 0)
            have kR := ((kc.setCell (p := ⟨wr.heap.size, 0, none⟩) (.inr (Nat.le_refl _)) (.int .i64 1)).setCell (p := ⟨wr.heap.size, 1, none⟩) (.inr (Nat.le_refl _)) (.int .i64 (256 * (y1.toNat : Int) + y2.toNat))).setCell (p := ⟨wr.heap.size, 2, none⟩) (.inr (Nat.le_refl _)) (.int .i64 0)
            have hownW := Keeps.row kR hownR
            clear kR
            clear q0 q1 q2 f0 f1 f2 hblk hownc kwc kc
            generalize (((wc.setCell ⟨wr.heap.size, 0, none⟩ (.int .i64 1)).setCell ⟨wr.heap.size, 1, none⟩ (.int .i64 (256 * (y1.toNat : Int) + y2.toNat))).setCell ⟨wr.heap.size, 2, none⟩ (.int .i64 0)) = W0 at *
            refine (r_check ⟨1, 256 * (y1.toNat : Int) + y2.toNat, 0⟩ _).mono ?_
            rintro e W1 ⟨rfl, k1⟩
            generalize hcc : (⟨1, 256 * (y1.toNat : Int) + y2.toNat, 0⟩ : Ch) = c at *
            have hblk1 := k1.blk hblkW (fun x => x)
            have kW1 := kW.trans' k1
            have hown1 := Keeps.row k1 hownW
            have q0 : W1.cell? ⟨wr.heap.size, 0, none⟩ = some (.int .i64 c.k) := (blkcell hblk1 0).trans (by rw [← hcc]; rfl)
            have q1 : W1.cell? ⟨wr.heap.size, 1, none⟩ = some (.int .i64 c.v) := (blkcell hblk1 1).trans (by rw [← hcc]; rfl)
            have q2 : W1.cell? ⟨wr.heap.size, 2, none⟩ = some (.int .i64 c.w) := (blkcell hblk1 2).trans (by rw [← hcc]; rfl)
            by_cases hc : chk c = 0
            · have HC := Lib.hid hc
              rw [hc]
              have hsucc : flatC (chsAt s.data.toList (p + 2) (j + 1)) = flatC (chsAt s.data.toList (p + 2) j) ++ flatC [c] := by rw [chsAt_succ, flatC_app, HC2.out]
              have HS := Lib.hid hsucc
              have HNO' := Lib.hid (show ∀ i, i < j + 1 → chk (chAt s.data.toList (p + 2 + i * 3)) = 0 from fun i hi => by
                by_cases e : i = j
                · subst e; rw [HC2.out]; exact hc
                · exact HNO.out i (by omega))
              have hjk : (j + 1) * 3 ≤ s.size - (p + 2) := by have := HOI.out; omega
              clear hc hsucc
              go_wp2_with (at_builtin; go_loud (refine wpList_append_rds _ rfl _ _ 22 rfl w.heap.size 24 (.agg #[.int .i64 0, .int .i64 0, .int .i64 0]) 3 24 Try.underlying22 (Try.infoC 24 (.inl rfl)) rfl (by decide) _ j (flatC (chsAt s.data.toList (p + 2) j)) rfl (hown1.alloc _) _ _ 1 (flatC [c]) rfl (rds_blkC _ _ _) ?c1 ?c2 ?c3 ?c4 ?_))
              case c1 => exact flatC_one _
              case c2 => unfold maxLen; omega
              case c3 => omega
              case c4 => have := kW1.size; simp; omega
              intro A1 p1 w1 hown2 hgrow1 hat1
              have hk1 : Keeps (fun _ => False) w w1 := (kW1.alloc _).grown hgrow1 (fun k hk hlt => by have := (hown1.lt k hk).1; omega)
              go_wp2_with fail
              have hjm := HJM.out
              go_roundg (gk - 1)
              case measure => omega
              case rel => exact ⟨j + 1, by go_num, by omega, by have := HOI.out; congr 1; push_cast; omega, hjk, HNO'.out, hk1, by rw [HS.out]; exact hown2⟩
            · have HE := Lib.hid (body_bad2 hav HNO.out hc (by rw [HC2.out]))
              go_wp2_with fail
              go_ret3
              exact RdPost.bad hc HE.out kW1
          · have hk1 : ((y0.toNat : Int) == 1) = false := by simp; omega
            have hm : mk3 y0 y1 y2 = ⟨y0.toNat, y1.toNat, y2.toNat⟩ := by rw [mk3, if_neg hk]
            have HC2 := Lib.hid (HCH.out.trans hm)
            clear hm hk
            go_wp2_with fail
            have hblkW := hblk
            have kW := kwc
            have hownW := hownc
            clear q0 q1 q2 f0 f1 f2 hblk
            refine (r_check ⟨y0.toNat, y1.toNat, y2.toNat⟩ _).mono ?_
            rintro e W1 ⟨rfl, k1⟩
            generalize hcc : (⟨y0.toNat, y1.toNat, y2.toNat⟩ : Ch) = c at *
            have hblk1 := k1.blk hblkW (fun x => x)
            have kW1 := kW.trans' k1
            have hown1 := Keeps.row k1 hownW
            have q0 : W1.cell? ⟨wr.heap.size, 0, none⟩ = some (.int .i64 c.k) := (blkcell hblk1 0).trans (by rw [← hcc]; rfl)
            have q1 : W1.cell? ⟨wr.heap.size, 1, none⟩ = some (.int .i64 c.v) := (blkcell hblk1 1).trans (by rw [← hcc]; rfl)
            have q2 : W1.cell? ⟨wr.heap.size, 2, none⟩ = some (.int .i64 c.w) := (blkcell hblk1 2).trans (by rw [← hcc]; rfl)
            by_cases hc : chk c = 0
            · have HC := Lib.hid hc
              rw [hc]
              have hsucc : flatC (chsAt s.data.toList (p + 2) (j + 1)) = flatC (chsAt s.data.toList (p + 2) j) ++ flatC [c] := by rw [chsAt_succ, flatC_app, HC2.out]
              have HS := Lib.hid hsucc
              have HNO' := Lib.hid (show ∀ i, i < j + 1 → chk (chAt s.data.toList (p + 2 + i * 3)) = 0 from fun i hi => by
                by_cases e : i = j
                · subst e; rw [HC2.out]; exact hc
                · exact HNO.out i (by omega))
              have hjk : (j + 1) * 3 ≤ s.size - (p + 2) := by have := HOI.out; omega
              clear hc hsucc
              go_wp2_with (at_builtin; go_loud (refine wpList_append_rds _ rfl _ _ 22 rfl w.heap.size 24 (.agg #[.int .i64 0, .int .i64 0, .int .i64 0]) 3 24 Try.underlying22 (Try.infoC 24 (.inl rfl)) rfl (by decide) _ j (flatC (chsAt s.data.toList (p + 2) j)) rfl (hown1.alloc _) _ _ 1 (flatC [c]) rfl (rds_blkC _ _ _) ?c1 ?c2 ?c3 ?c4 ?_))
              case c1 => exact flatC_one _
              case c2 => unfold maxLen; omega
              case c3 => omega
              case c4 => have := kW1.size; simp; omega
              intro A1 p1 w1 hown2 hgrow1 hat1
              have hk1 : Keeps (fun _ => False) w w1 := (kW1.alloc _).grown hgrow1 (fun k hk hlt => by have := (hown1.lt k hk).1; omega)
              go_wp2_with fail
              have hjm := HJM.out
              go_roundg (gk - 1)
              case measure => omega
              case rel => exact ⟨j + 1, by go_num, by omega, by have := HOI.out; congr 1; push_cast; omega, hjk, HNO'.out, hk1, by rw [HS.out]; exact hown2⟩
            · have HE := Lib.hid (body_bad2 hav HNO.out hc (by rw [HC2.out]))
              go_wp2_with fail
              go_ret3
              exact RdPost.bad hc HE.out kW1
    · have e : j = M := by omega
      subst e
      have HE := Lib.hid (body_ok (L := s.data.toList) (q := p + 2) (M := j) (by unfold avail; rw [bytes_len]; omega) HNO.out)
      go_wp2_with fail
      go_ret3
      have hg := RdPost.good (w := w) HE.out (v := .slice Au j cu) (Rds.own hown) kw
      have hcast : ((p + 2 : Nat) : Int) + j * 3 = (p : Int) + 2 + j * 3 := by omega
      rw [hcast] at hg
      exact hg
end Go.Proofs.Ytbfdiejcbiocpaa
