/- A table of slots (becket/arena) in memory: the methods at, Get, Set, Drop, Add, Len, Free, Handles, New. -/
import Derived.Test.YtlfccifibhcacaaAg
namespace Go.Proofs.Ytlfccifibhcacaa
open Go.RowKit
set_option linter.unusedVariables false
set_option linter.unusedSimpArgs false

def slotPtr (s : Nat) (sl : List ASlot) (h : Int) : Value := .pointer (if atE sl h = 0 then some ⟨s, (hS h).toNat * 3, none⟩ else none)

theorem atE_far {sl : List ASlot} {h : Int} (hn : ¬ (0 ≤ hS h ∧ hS h < sl.length)) : atE sl h = 8 := by rw [atE, if_neg hn]
theorem atE_in {sl : List ASlot} {h : Int} {i : Nat} (hi : hS h = i) (hl : i < sl.length) : atE sl h = if (sAt sl i).used = true ∧ (sAt sl i).gen = hG h then 0 else 9 := by
  rw [atE, if_pos (by omega), hi, Int.toNat_natCast]

theorem hd_gen_q (h z : Int) (hz : hG h = z) (w : World) : Calls Try.prog 71 #[.int .i64 h] w fun e w' => e = .returned (.int .i64 z) ∧ ∃ m, w' = w.drewN m := by
  subst hz
  exact (hd_gen h w).mono fun e w' ⟨h1, h2⟩ => ⟨h1, 0, h2.symm⟩

set_option maxHeartbeats 1000000 in
theorem ar_at (g s : Nat) (last many : Int) (sl : List ASlot) (h : Int) (w : World) (ha : IsArena w g s last many sl) :
    Calls Try.prog 48 #[.pointer (some ⟨g, 0, none⟩), .int .i64 h] w fun e w' => e = .returned (.tuple #[slotPtr s sl h, .int .i64 (atE sl h)]) ∧ ∃ k, w' = w.drewN k := by
  have c2 := ha.c2
  have n1 := ha.fine.n1
  have ok := ar_ok g s last many sl w ha
  by_cases h0 : hS h < 0
  · have e := atE_far (sl := sl) (h := h) (by omega)
    rw [slotPtr, e, if_neg (by omega)]
    go_enter Try.func48, Try.ntmps48
    go_wp2_with (first | (go_at_call 50; refine (ar_ok g s last many sl _ ha).mono ?_; rintro e w' ⟨rfl, rfl⟩) | (go_at_call 70; refine (hd_slot h _).mono ?_; rintro e w' ⟨rfl, rfl⟩))
    go_ret2
    exact ⟨rfl, 0, rfl⟩
  · by_cases h1 : hS h < sl.length
    · obtain ⟨i, hi⟩ : ∃ i : Nat, hS h = i := ⟨(hS h).toNat, by omega⟩
      have hil : i < sl.length := by omega
      have e := atE_in hi hil
      obtain ⟨d0, d1, _⟩ := ha.nd i hil
      have h0' : ¬ ((i : Int) < 0) := by omega
      have h1' : ¬ ((sl.length : Int) ≤ i) := by omega
      rw [slotPtr, e, hi, Int.toNat_natCast]
      have HI := Lib.hid hi
      clear e h0 h1 hi ok
      generalize sAt sl i = t at *
      obtain ⟨ge, us, x⟩ := t
      cases us with
      | false =>
        have ee : (if (ASlot.mk ge false x).used = true ∧ (ASlot.mk ge false x).gen = hG h then (0 : Int) else 9) = 9 := if_neg (fun x => by cases x.1)
        rw [ee, if_neg (by omega)]
        clear ee
        go_enter Try.func48, Try.ntmps48
        go_wp2_with (first | (go_at_call 50; refine (ar_ok g s last many sl _ ha).mono ?_; rintro e w' ⟨rfl, rfl⟩) | (go_at_call 70; refine (hd_slot h _).mono ?_; rintro e w' ⟨rfl, rfl⟩; rw [HI.out]))
        refine wp_qall (w0 := w) ⟨0, rfl⟩ (by kernel_rfl) (by kernel_rfl) ?_
        repeat go_big_quiet_step (fail)
        refine wpQuiet_nil (fun nq => ?_)
        go_wp2
        go_ret2
        exact ⟨rfl, _, rfl⟩
      | true =>
        by_cases hg : ge = hG h
        · have ee : (if (ASlot.mk ge true x).used = true ∧ (ASlot.mk ge true x).gen = hG h then (0 : Int) else 9) = 0 := if_pos ⟨rfl, hg⟩
          rw [ee, if_pos rfl]
          clear ee
          have hne : (ge != hG h) = false := by simp [hg]
          clear hg
          generalize hz : hG h = z at *
          have HZ := Lib.hid hz
          clear hz
          go_enter Try.func48, Try.ntmps48
          go_wp2_with (first | (go_at_call 50; refine (ar_ok g s last many sl _ ha).mono ?_; rintro e w' ⟨rfl, rfl⟩) | (go_at_call 70; refine (hd_slot h _).mono ?_; rintro e w' ⟨rfl, rfl⟩; rw [HI.out]))
          refine wp_qall (w0 := w) ⟨0, rfl⟩ (by kernel_rfl) (by kernel_rfl) ?_
          repeat (go_big_quiet_step ((go_at_call 71; exact calls_q (hd_gen_q h z HZ.out _))))
          refine wpQuiet_nil (fun nq => ?_)
          go_wp2
          go_ret2
          exact ⟨rfl, _, rfl⟩
        · have ee : (if (ASlot.mk ge true x).used = true ∧ (ASlot.mk ge true x).gen = hG h then (0 : Int) else 9) = 9 := if_neg (fun x => hg x.2)
          rw [ee, if_neg (by omega)]
          clear ee
          have hne : (ge != hG h) = true := by simpa using hg
          clear hg
          generalize hz : hG h = z at *
          have HZ := Lib.hid hz
          clear hz
          go_enter Try.func48, Try.ntmps48
          go_wp2_with (first | (go_at_call 50; refine (ar_ok g s last many sl _ ha).mono ?_; rintro e w' ⟨rfl, rfl⟩) | (go_at_call 70; refine (hd_slot h _).mono ?_; rintro e w' ⟨rfl, rfl⟩; rw [HI.out]))
          refine wp_qall (w0 := w) ⟨0, rfl⟩ (by kernel_rfl) (by kernel_rfl) ?_
          repeat (go_big_quiet_step ((go_at_call 71; exact calls_q (hd_gen_q h z HZ.out _))))
          refine wpQuiet_nil (fun nq => ?_)
          go_wp2
          go_ret2
          exact ⟨rfl, _, rfl⟩
    · have e := atE_far (sl := sl) (h := h) (by omega)
      have h1' : (sl.length : Int) ≤ hS h := by omega
      rw [slotPtr, e, if_neg (by omega)]
      go_enter Try.func48, Try.ntmps48
      go_wp2_with (first | (go_at_call 50; refine (ar_ok g s last many sl _ ha).mono ?_; rintro e w' ⟨rfl, rfl⟩) | (go_at_call 70; refine (hd_slot h _).mono ?_; rintro e w' ⟨rfl, rfl⟩))
      go_ret2
      exact ⟨rfl, 0, rfl⟩

/-- A table that holds these slots. -/
abbrev HoldsA (w : World) (g s : Nat) (last : Int) (sl : List ASlot) : Prop := IsArena w g s last ((things sl).length : Nat) sl

set_option maxHeartbeats 400000 in
theorem ar_get (g s : Nat) (last : Int) (sl : List ASlot) (h : Int) (w : World) (ha : HoldsA w g s last sl) :
    Calls Try.prog 44 #[.pointer (some ⟨g, 0, none⟩), .int .i64 h] w fun e w' => e = .returned (.tuple #[.int .i64 (getX sl h), .int .i64 (atE sl h)]) ∧ ∃ k, w' = w.drewN k := by
  by_cases he : atE sl h = 0
  · obtain ⟨i, hi, hil, hu, hg⟩ := atE_yes he
    obtain ⟨_, _, d2⟩ := ha.nd i hil
    have hp : slotPtr s sl h = .pointer (some ⟨s, i * 3, none⟩) := by rw [slotPtr, if_pos he, hi, Int.toNat_natCast]
    rw [getX, if_pos he, hi, Int.toNat_natCast, he]
    have HE := Lib.hid he
    have HP := Lib.hid hp
    clear hi hg hu he hp
    go_enter Try.func44, Try.ntmps44
    go_wp2_with fail
    refine (ar_at g s last _ sl h _ ha).mono ?_
    rintro e w' ⟨rfl, k, rfl⟩
    rw [HE.out, HP.out]
    go_wp2_with fail
    go_ret2
    exact ⟨rfl, _, rfl⟩
  · have hp : slotPtr s sl h = .pointer none := by rw [slotPtr, if_neg he]
    have hne : (atE sl h != 0) = true := by simpa using he
    rw [getX, if_neg he]
    have HP := Lib.hid hp
    clear hp
    go_enter Try.func44, Try.ntmps44
    go_wp2_with fail
    refine (ar_at g s last _ sl h _ ha).mono ?_
    rintro e w' ⟨rfl, k, rfl⟩
    rw [HP.out]
    go_wp2_with fail
    go_ret2
    exact ⟨rfl, _, rfl⟩

set_option maxHeartbeats 400000 in
theorem ar_set (g s : Nat) (last : Int) (sl : List ASlot) (h x : Int) (w : World) (ha : HoldsA w g s last sl) :
    Calls Try.prog 24 #[.pointer (some ⟨g, 0, none⟩), .int .i64 h, .int .i64 x] w fun e w' => e = .returned (.int .i64 (atE sl h)) ∧ HoldsA w' g s last (setS sl h x) ∧ Keeps (fun k => k = s) w w' := by
  by_cases he : atE sl h = 0
  · obtain ⟨i, hi, hil, hu, hg⟩ := atE_yes he
    obtain ⟨d0, d1, d2⟩ := ha.nd i hil
    have f2 := ha.fs (i * 3 + 2)
    have hp : slotPtr s sl h = .pointer (some ⟨s, i * 3, none⟩) := by rw [slotPtr, if_pos he, hi, Int.toNat_natCast]
    have hs : setS sl h x = sl.set i ⟨(sAt sl i).gen, true, x⟩ := by rw [setS, if_pos he, hi, Int.toNat_natCast]
    have hF := ha.fine.setS h x
    rw [hs] at hF ⊢
    rw [he]
    have hlen := len_setX hil hu (sAt sl i).gen x
    have HU := Lib.hid hu
    have HE := Lib.hid he
    have HP := Lib.hid hp
    have HL := Lib.hid hlen
    clear hi hg hu he hp hs hlen
    go_enter Try.func24, Try.ntmps24
    go_wp2_with fail
    refine (ar_at g s last _ sl h _ ha).mono ?_
    rintro e w' ⟨rfl, k, rfl⟩
    rw [HE.out, HP.out]
    go_wp2_with fail
    go_ret
    have k1 : Keeps (fun k => k = s) w (w.drewN k) := (Keeps.refl _ _).drewN k
    have k2 : Keeps (fun k => k = s) (w.drewN k) ((w.drewN k).setCell ⟨s, i * 3 + 2, none⟩ (.int .i64 x)) := (Keeps.refl (fun k => k = s) _).setCell (.inl rfl) _
    refine ⟨rfl, ?_, k1.trans' k2⟩
    have hs1 := Slots.setX (IsArena.slots (ha.still ((Keeps.refl (fun _ => False) w).drewN k))) hil x
    rw [HU.out] at hs1
    have := hs1.arena ha (k1.trans' k2) (by simp) hF
    show IsArena _ _ _ _ _ _
    rw [HL.out]; exact this
  · have hp : slotPtr s sl h = .pointer none := by rw [slotPtr, if_neg he]
    have hne : (atE sl h == 0) = false := by simpa using he
    rw [setS, if_neg he]
    have HP := Lib.hid hp
    clear hp
    go_enter Try.func24, Try.ntmps24
    go_wp2_with fail
    refine (ar_at g s last _ sl h _ ha).mono ?_
    rintro e w' ⟨rfl, k, rfl⟩
    rw [HP.out]
    go_wp2_with fail
    go_ret
    exact ⟨rfl, ha.still ((Keeps.refl (fun _ => False) w).drewN k), (Keeps.refl _ _).drewN k⟩

set_option maxHeartbeats 400000 in
theorem ar_drop (g s : Nat) (last : Int) (sl : List ASlot) (h : Int) (w : World) (ha : HoldsA w g s last sl) :
    Calls Try.prog 26 #[.pointer (some ⟨g, 0, none⟩), .int .i64 h] w fun e w' => e = .returned (.int .i64 (atE sl h)) ∧ HoldsA w' g s last (dropS sl h) ∧ Keeps (fun k => k = g ∨ k = s) w w' := by
  by_cases he : atE sl h = 0
  · obtain ⟨i, hi, hil, hu, hg⟩ := atE_yes he
    obtain ⟨d0, d1, d2⟩ := ha.nd i hil
    have f1 := ha.fs (i * 3 + 1)
    have f2 := ha.fs (i * 3 + 2)
    have c1 := ha.c1
    have fg := blkfrozen ha.own 1
    have hgs := ha.ne
    have hp : slotPtr s sl h = .pointer (some ⟨s, i * 3, none⟩) := by rw [slotPtr, if_pos he, hi, Int.toNat_natCast]
    have hs : dropS sl h = sl.set i ⟨(sAt sl i).gen, false, 0⟩ := by rw [dropS, if_pos he, hi, Int.toNat_natCast]
    have hF := ha.fine.dropS h
    rw [hs] at hF ⊢
    rw [he]
    have hlen := len_drop hil hu (sAt sl i).gen 0
    have hml := things_len sl
    have hn1 := ha.fine.n1
    have hm1 : (1 : Int) ≤ ((things sl).length : Nat) := by omega
    have HE := Lib.hid he
    have HP := Lib.hid hp
    have HL := Lib.hid hlen
    clear hi hg hu he hp hs hlen
    go_enter Try.func26, Try.ntmps26
    go_wp2_with fail
    refine (ar_at g s last _ sl h _ ha).mono ?_
    rintro e w' ⟨rfl, k, rfl⟩
    rw [HE.out, HP.out]
    go_wp2_with fail
    go_ret
    have k1 : Keeps (fun k => k = s) w (w.drewN k) := (Keeps.refl _ _).drewN k
    have k2 : Keeps (fun k => k = s) (w.drewN k) (((w.drewN k).setCell ⟨s, i * 3 + 1, none⟩ (.bool false)).setCell ⟨s, i * 3 + 2, none⟩ (.int .i64 0)) := ((Keeps.refl (fun k => k = s) _).setCell (.inl rfl) _).setCell (.inl rfl) _
    have hs1 := Slots.setU (IsArena.slots (ha.still ((Keeps.refl (fun _ => False) w).drewN k))) hil false
    have hs2 := hs1.setX (i := i) (by simpa using hil) 0
    rw [sAt_set _ _ _ _ hil, if_pos rfl, List.set_set] at hs2
    have h3 := (hs2.arena ha (k1.trans' k2) (by simp) hF).setMany (((things sl).length : Nat) - 1)
    refine ⟨rfl, ?_, ((k1.trans' k2).mono (fun _ _ x => .inr x)).setCell (.inl (.inl rfl)) _⟩
    show IsArena _ _ _ _ _ _
    have hl := HL.out
    rw [show (((things (sl.set i ⟨(sAt sl i).gen, false, 0⟩)).length : Nat) : Int) = ((things sl).length : Nat) - 1 by omega]; exact h3
  · have hp : slotPtr s sl h = .pointer none := by rw [slotPtr, if_neg he]
    have hne : (atE sl h == 0) = false := by simpa using he
    rw [dropS, if_neg he]
    have HP := Lib.hid hp
    clear hp
    go_enter Try.func26, Try.ntmps26
    go_wp2_with fail
    refine (ar_at g s last _ sl h _ ha).mono ?_
    rintro e w' ⟨rfl, k, rfl⟩
    rw [HP.out]
    go_wp2_with fail
    go_ret
    exact ⟨rfl, ha.still ((Keeps.refl (fun _ => False) w).drewN k), (Keeps.refl _ _).drewN k⟩

theorem ar_len (g s : Nat) (last : Int) (sl : List ASlot) (w : World) (ha : HoldsA w g s last sl) :
    Calls Try.prog 45 #[.pointer (some ⟨g, 0, none⟩)] w fun e w' => e = .returned (.int .i64 ((things sl).length : Nat)) ∧ w = w' := by
  have c1 := ha.c1
  go_enter Try.func45, Try.ntmps45
  go_wp2_with (go_at_call 50; refine (ar_ok g s last _ sl _ ha).mono ?_; rintro e w' ⟨rfl, rfl⟩)
  go_ret
  exact ⟨rfl, rfl⟩

theorem sAt_get {sl : List ASlot} {k : Nat} (h : k < sl.length) : sl[k] = sAt sl k := by simp [sAt, List.getD, List.getElem?_eq_getElem h]

set_option maxHeartbeats 1000000 in
theorem ar_free (g s : Nat) (last : Int) (sl : List ASlot) (w : World) (ha : HoldsA w g s last sl) :
    Calls Try.prog 46 #[.pointer (some ⟨g, 0, none⟩)] w fun e w' => e = .returned (.int .i64 (freeA last sl : Nat)) ∧ ∃ k, w' = w.drewN k := by
  have c2 := ha.c2
  have n1 := ha.fine.n1
  go_enter Try.func46, Try.ntmps46
  go_wp2_with (go_at_call 50; refine (ar_ok g s last _ sl _ ha).mono ?_; rintro e w' ⟨rfl, rfl⟩)
  go_loopg [3, 13] sl.length (fun m c i wr => ∃ k q : Nat, i = .int .i64 k ∧ k + m = sl.length ∧ c = .int .i64 (((sl.take k).filter (openS last)).length : Nat) ∧ wr = w.drewN q)
  case atStart => exact ⟨0, 0, rfl, by omega, rfl, rfl⟩
  case round =>
    obtain ⟨k, q, rfl, hkm, rfl, rfl⟩ := hrel
    have HKM := Lib.hid hkm
    have hkl : k ≤ sl.length := by omega
    clear hkm
    by_cases hk : k < sl.length
    · have hk' : (k : Int) < sl.length := by omega
      have hcl : ((sl.take k).filter (openS last)).length ≤ 30 := by
        have := List.length_filter_le (openS last) (sl.take k)
        simp at this; omega
      have hsucc : (sl.take (k + 1)).filter (openS last) = (sl.take k).filter (openS last) ++ if openS last (sAt sl k) = true then [sAt sl k] else [] := by
        rw [List.take_succ_eq_append_getElem hk, List.filter_append, sAt_get hk]
        simp [List.filter_cons]
      have HS := Lib.hid hsucc
      clear hsucc
      go_wp2_with fail
      refine (ar_open g s last _ sl k _ (ha.still ((Keeps.refl _ _).drewN q)) hk).mono ?_
      rintro e w' ⟨rfl, p, rfl⟩
      have hsucc := HS.out
      cases ho : openS last (sAt sl k) with
      | true =>
        rw [ho, if_pos rfl] at hsucc
        have HS2 := Lib.hid hsucc
        clear hsucc ho
        go_wp2_with fail
        have hkm := HKM.out
        go_roundg (gk - 1)
        case measure => omega
        case rel => exact ⟨k + 1, q + p, by go_num, by omega, by rw [HS2.out, List.length_append]; go_num, rfl⟩
      | false =>
        rw [ho, if_neg (by simp), List.append_nil] at hsucc
        have HS2 := Lib.hid hsucc
        clear hsucc ho
        go_wp2_with fail
        have hkm := HKM.out
        go_roundg (gk - 1)
        case measure => omega
        case rel => exact ⟨k + 1, q + p, by go_num, by omega, by rw [HS2.out], rfl⟩
    · have e : k = sl.length := by omega
      subst e
      go_wp2_with fail
      go_ret
      exact ⟨by rw [List.take_length]; rfl, _, rfl⟩

theorem Try.info3h : (Try.prog.info? 3).map (fun i => (i.zero, i.size, i.bytes)) = some (some (.int .i64 0), 1, 8) := by kernel_rfl

theorem rds_one2 (w : World) (o : Obj) (x : Value) (t : TypeId) : Rds (fun _ => True) ((w.alloc o).alloc (.cells #[x] t)) (.slice (some ⟨w.heap.size + 1, 0, none⟩) 1 1) 1 1 [x] := by
  have := rds_one' (w.alloc o) x t
  rwa [World.size_alloc] at this

def handleOf (sl : List ASlot) (t : Int × Int) : Int := (sAt sl t.1.toNat).gen * 4096 + t.1
theorem handles_succ {sl : List ASlot} {k : Nat} (hk : k < sl.length) : (thingsFrom 0 (sl.take (k + 1))).map (handleOf sl) = (thingsFrom 0 (sl.take k)).map (handleOf sl) ++ if (sAt sl k).used = true then [(sAt sl k).gen * 4096 + (k : Int)] else [] := by
  rw [List.take_succ_eq_append_getElem hk, thingsFrom_append, List.map_append, sAt_get hk]
  have : (sl.take k).length = k := by simp; omega
  rw [this]
  simp only [thingsFrom]
  split
  · simp [handleOf]
  · rfl
theorem handles_len {sl : List ASlot} (k : Nat) : ((thingsFrom 0 (sl.take k)).map (handleOf sl)).length ≤ sl.length := by
  rw [List.length_map, thingsFrom_len]
  have := List.length_filter_le ASlot.used (sl.take k)
  simp at this; omega

set_option maxHeartbeats 1600000 in
theorem ar_handles (g s : Nat) (last : Int) (sl : List ASlot) (w : World) (ha : HoldsA w g s last sl) :
    Calls Try.prog 47 #[.pointer (some ⟨g, 0, none⟩)] w fun e w' => ∃ v, e = .returned v ∧ Rds (fun b => w.heap.size ≤ b) w' v 1 (handlesA sl).length ((handlesA sl).map (Value.int .i64)) ∧ Keeps (fun _ => False) w w' := by
  have c2 := ha.c2
  have n1 := ha.fine.n1
  go_enter Try.func47, Try.ntmps47
  go_wp2_with (go_at_call 50; refine (ar_ok g s last _ sl _ ha).mono ?_; rintro e w' ⟨rfl, rfl⟩)
  go_loopg [3, 16] sl.length (fun m v i wr => ∃ k : Nat, i = .int .i64 k ∧ k + m = sl.length ∧ Keeps (fun _ => False) w wr ∧ wr.ownsRow w.heap.size 3 1 v ((thingsFrom 0 (sl.take k)).map (handleOf sl)).length (((thingsFrom 0 (sl.take k)).map (handleOf sl)).map (Value.int .i64)))
  case atStart => exact ⟨0, rfl, by omega, Keeps.refl _ _, World.ownsRow_nil _ _ _ _⟩
  case round =>
    obtain ⟨k, rfl, hkm, kw, hown⟩ := hrel
    have HKM := Lib.hid hkm
    have hkl : k ≤ sl.length := by omega
    clear hkm
    by_cases hk : k < sl.length
    · have hk' : (k : Int) < sl.length := by omega
      have hsucc := handles_succ hk
      have hll := handles_len (sl := sl) k
      obtain ⟨e0, e1, e2⟩ := (ha.still kw).nd k hk
      have hfin := ha.fine.gen k hk
      have hl2 := ha.fine.l2
      generalize (thingsFrom 0 (sl.take k)).map (handleOf sl) = acc at *
      generalize sAt sl k = t at *
      obtain ⟨ge, us, x⟩ := t
      have hS := heap_alloc_new wr (.cells #[.int .i64 ge, .bool us, .int .i64 x] 98)
      have cS0 : (wr.alloc (.cells #[.int .i64 ge, .bool us, .int .i64 x] 98)).cell? ⟨wr.heap.size, 0, none⟩ = some (.int .i64 ge) := (blkcell hS 0).trans rfl
      have cS1 : (wr.alloc (.cells #[.int .i64 ge, .bool us, .int .i64 x] 98)).cell? ⟨wr.heap.size, 1, none⟩ = some (.bool us) := (blkcell hS 1).trans rfl
      obtain ⟨A, c, rfl⟩ := own_slice' hown
      have hwz := kw.size
      cases us with
      | false =>
        rw [if_neg (by simp), List.append_nil] at hsucc
        have HS := Lib.hid hsucc
        clear hsucc
        go_wp2_with fail
        have hkm := HKM.out
        go_roundg (gk - 1)
        case measure => omega
        case rel => exact ⟨k + 1, by go_num, by omega, kw.alloc _, by rw [HS.out]; exact hown.alloc _⟩
      | true =>
        rw [if_pos rfl] at hsucc
        have HS := Lib.hid hsucc
        clear hsucc
        have g1 : 1 ≤ ge := hfin.2.2 rfl
        have g2 : ge ≤ last := hfin.2.1
        clear hfin
        go_wp2_with fail
        refine (hd_make (k : Int) ge _ (by omega) (by omega) g1 (by omega)).mono ?_
        rintro e w' ⟨rfl, rfl⟩
        go_wp2_with (at_builtin; go_loud (refine wpList_append_rds _ rfl _ _ 28 rfl w.heap.size 3 (.int .i64 0) 1 8 Try.underlying28 Try.info3h rfl (by decide) _ _ _ rfl ((hown.alloc _).alloc _) _ _ 1 [.int .i64 (ge * 4096 + k)] rfl (rds_one2 _ _ _ _) ?c1 ?c2 ?c3 ?c4 ?_))
        case c1 => intro u hu; simp at hu; subst hu; rfl
        case c2 => unfold maxLen; omega
        case c3 => omega
        case c4 => simp; omega
        intro A1 p1 w1 hown1 hgrow1 hat1
        have hk1 : Keeps (fun _ => False) w w1 := ((kw.alloc _).alloc _).grown hgrow1 (fun k hk hlt => by have := (hown.lt k hk).1; omega)
        go_wp2_with fail
        have hkm := HKM.out
        go_roundg (gk - 1)
        case measure => omega
        case rel => exact ⟨k + 1, by go_num, by omega, hk1, by rw [HS.out]; simpa using hown1⟩
    · have e : k = sl.length := by omega
      subst e
      rw [List.take_length] at hown
      go_wp2_with fail
      go_ret
      refine ⟨_, rfl, ?_, kw⟩
      exact Rds.own hown
end Go.Proofs.Ytlfccifibhcacaa
